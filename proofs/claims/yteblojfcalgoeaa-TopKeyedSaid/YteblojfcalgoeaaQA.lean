/- Parts of the abstract machine and of its laws, joined. Conditions: none. -/
import Derived.WalkKit
import Derived.Orders
set_option linter.unusedVariables false
set_option linter.unusedSimpArgs false
/- The abstract machine: values, heap, and how they stand to the model's values and worlds. Conditions: none. -/
namespace Go.Proofs.Yteblojfcalgoeaa
open Go Go.RowKit

/-! ## Abstract values -/
inductive AV where
  | bool (b : Bool)
  | int (k : IntKind) (n : Int)
  | str (s : List UInt8)
  | ptr (i o : Nat)
  | nilp
  | sl (i o n c : Nat) (l : Bool)
  | emp
  | nils
  | map (i : Nat)
  | nilm
  | fn (f : Fn) (first cap : List AV)
  | nilf
  | iface (t : TypeId) (v : AV)
  | nili
  | agg (cs : List AV)
  | tup (vs : List AV)
  | bad
  deriving Inhabited

structure Place where
  block : Nat
  off : Nat
  cap : Nat

structure Sig where
  n : Nat
  at_ : Nat → Place

def Sig.addr (σ : Sig) (i o : Nat) : Addr := ⟨(σ.at_ i).block, (σ.at_ i).off + o, none⟩

mutual
def VR (σ : Sig) : AV → Value → Prop
  | .bool b, v => v = .bool b
  | .int k n, v => v = .int k n
  | .str s, v => v = .string ⟨s.toArray⟩
  | .ptr i o, v => i < σ.n ∧ v = .pointer (some (σ.addr i o))
  | .nilp, v => v = .pointer none
  | .sl i o n c l, v => i < σ.n ∧ (if l = true then ∃ c', v = .slice (some (σ.addr i o)) n c' ∧ n ≤ c' ∧ (o = 0 → c' = (σ.at_ i).cap) else v = .slice (some (σ.addr i o)) n c ∧ n ≤ c)
  | .emp, v => ∃ a c, v = .slice (some a) 0 c
  | .nils, v => v = .slice none 0 0
  | .map i, v => i < σ.n ∧ v = .map (some (σ.at_ i).block)
  | .nilm, v => v = .map none
  | .fn f fs cs, v => ∃ a b, v = .func f a b ∧ VRL σ fs a.toList ∧ VRL σ cs b.toList
  | .nilf, v => v = .nilFunc
  | .iface t x, v => ∃ y, v = .iface t y ∧ VR σ x y
  | .nili, v => v = .nilIface
  | .agg cs, v => ∃ a, v = .agg a ∧ VRL σ cs a.toList
  | .tup cs, v => ∃ a, v = .tuple a ∧ VRL σ cs a.toList
  | .bad, _ => True
def VRL (σ : Sig) : List AV → List Value → Prop
  | [], l => l = []
  | x :: xs, l => ∃ y ys, l = y :: ys ∧ VR σ x y ∧ VRL σ xs ys
end

structure SE (σ τ : Sig) : Prop where
  n : σ.n ≤ τ.n
  at_ : ∀ i, i < σ.n → τ.at_ i = σ.at_ i

theorem SE.refl (σ : Sig) : SE σ σ := ⟨Nat.le_refl _, fun _ _ => rfl⟩
theorem SE.trans {a b c : Sig} (h : SE a b) (k : SE b c) : SE a c :=
  ⟨Nat.le_trans h.n k.n, fun i hi => (k.at_ i (Nat.lt_of_lt_of_le hi h.n)).trans (h.at_ i hi)⟩
theorem SE.addr {σ τ : Sig} (h : SE σ τ) {i : Nat} (hi : i < σ.n) (o : Nat) : τ.addr i o = σ.addr i o := by
  unfold Sig.addr; rw [h.at_ i hi]

mutual
theorem VR.mono {σ τ : Sig} (h : SE σ τ) : ∀ (a : AV) (v : Value), VR σ a v → VR τ a v
  | .bool _, _, hv => by simpa only [VR] using hv
  | .int _ _, _, hv => by simpa only [VR] using hv
  | .str _, _, hv => by simpa only [VR] using hv
  | .ptr i o, v, hv => by
      simp only [VR] at hv ⊢
      exact ⟨Nat.lt_of_lt_of_le hv.1 h.n, by rw [h.addr hv.1]; exact hv.2⟩
  | .nilp, _, hv => by simpa only [VR] using hv
  | .sl i o n c l, v, hv => by
      simp only [VR] at hv ⊢
      refine ⟨Nat.lt_of_lt_of_le hv.1 h.n, ?_⟩
      rw [h.addr hv.1, h.at_ i hv.1]
      exact hv.2
  | .emp, _, hv => by simpa only [VR] using hv
  | .nils, _, hv => by simpa only [VR] using hv
  | .map i, v, hv => by
      simp only [VR] at hv ⊢
      exact ⟨Nat.lt_of_lt_of_le hv.1 h.n, by rw [h.at_ i hv.1]; exact hv.2⟩
  | .nilm, _, hv => by simpa only [VR] using hv
  | .fn f fs cs, v, hv => by
      simp only [VR] at hv ⊢
      obtain ⟨a, b, e, h1, h2⟩ := hv
      exact ⟨a, b, e, VRL.mono h fs _ h1, VRL.mono h cs _ h2⟩
  | .nilf, _, hv => by simpa only [VR] using hv
  | .iface t x, v, hv => by
      simp only [VR] at hv ⊢
      obtain ⟨y, e, h1⟩ := hv
      exact ⟨y, e, VR.mono h x _ h1⟩
  | .nili, _, hv => by simpa only [VR] using hv
  | .agg cs, v, hv => by
      simp only [VR] at hv ⊢
      obtain ⟨a, e, h1⟩ := hv
      exact ⟨a, e, VRL.mono h cs _ h1⟩
  | .tup cs, v, hv => by
      simp only [VR] at hv ⊢
      obtain ⟨a, e, h1⟩ := hv
      exact ⟨a, e, VRL.mono h cs _ h1⟩
  | .bad, _, _ => by simp only [VR]
theorem VRL.mono {σ τ : Sig} (h : SE σ τ) : ∀ (a : List AV) (v : List Value), VRL σ a v → VRL τ a v
  | [], _, hv => by simpa only [VRL] using hv
  | x :: xs, v, hv => by
      simp only [VRL] at hv ⊢
      obtain ⟨y, ys, e, h1, h2⟩ := hv
      exact ⟨y, ys, e, VR.mono h x _ h1, VRL.mono h xs _ h2⟩
end

theorem VRL.length {σ : Sig} : ∀ {a : List AV} {v : List Value}, VRL σ a v → v.length = a.length
  | [], _, h => by simp only [VRL] at h; subst h; rfl
  | x :: xs, v, h => by
      simp only [VRL] at h
      obtain ⟨y, ys, rfl, _, h2⟩ := h
      simp [VRL.length h2]

theorem VRL.get {σ : Sig} : ∀ {a : List AV} {v : List Value}, VRL σ a v → ∀ {k : Nat} {x : AV}, a[k]? = some x → ∃ y, v[k]? = some y ∧ VR σ x y
  | [], _, _, _, _, hx => by simp at hx
  | x :: xs, v, h, k, z, hx => by
      simp only [VRL] at h
      obtain ⟨y, ys, rfl, h1, h2⟩ := h
      cases k with
      | zero => simp at hx; subst hx; exact ⟨y, by simp, h1⟩
      | succ k => simp at hx ⊢; exact VRL.get h2 hx

theorem VRL.of_get {σ : Sig} : ∀ {a : List AV} {v : List Value}, v.length = a.length → (∀ (k : Nat) (x : AV) (y : Value), a[k]? = some x → v[k]? = some y → VR σ x y) → VRL σ a v
  | [], v, h, _ => by simp only [VRL]; exact List.eq_nil_of_length_eq_zero (by simpa using h)
  | x :: xs, [], h, _ => by simp at h
  | x :: xs, y :: ys, h, hg => by
      simp only [VRL]
      exact ⟨y, ys, rfl, hg 0 x y (by simp) (by simp), VRL.of_get (by simpa using h) fun k a b ha hb => hg (k + 1) a b (by simpa using ha) (by simpa using hb)⟩

theorem VRL.append {σ : Sig} {a b : List AV} {v u : List Value} (h : VRL σ a v) (k : VRL σ b u) : VRL σ (a ++ b) (v ++ u) := by
  refine VRL.of_get (by simp [h.length, k.length]) fun i x y hx hy => ?_
  rw [List.getElem?_append] at hx hy
  rw [h.length] at hy
  split at hx
  · rw [if_pos ‹_›] at hy
    obtain ⟨z, hz, hr⟩ := h.get hx
    rw [hz] at hy; cases hy; exact hr
  · rw [if_neg ‹_›] at hy
    obtain ⟨z, hz, hr⟩ := k.get hx
    rw [hz] at hy; cases hy; exact hr

/-! ## Abstract heap -/
inductive Mode where
  | ro | own | loose
  deriving DecidableEq, Inhabited

inductive AO where
  | dead
  | cells (cs : List AV) (t : TypeId) (m : Mode)
  | map (es : List (List UInt8 × AV))
  | raw (o : Obj)      -- a block that holds just this
  deriving Inhabited

structure AH where
  next : Nat
  get : Nat → AO

def AH.empty : AH := ⟨0, fun _ => .dead⟩
def AH.push (h : AH) (o : AO) : AH := ⟨h.next + 1, fun j => bif Nat.beq j h.next then o else h.get j⟩
def AH.set (h : AH) (i : Nat) (o : AO) : AH := ⟨h.next, fun j => bif Nat.beq j i then o else h.get j⟩

@[simp] theorem AH.next_push (h : AH) (o : AO) : (h.push o).next = h.next + 1 := rfl
@[simp] theorem AH.next_set (h : AH) (i : Nat) (o : AO) : (h.set i o).next = h.next := rfl
theorem AH.get_push (h : AH) (o : AO) (j : Nat) : (h.push o).get j = if j = h.next then o else h.get j := by
  simp only [AH.push]; cases hb : Nat.beq j h.next
  · rw [if_neg (Nat.ne_of_beq_eq_false hb)]; rfl
  · rw [if_pos (Nat.eq_of_beq_eq_true hb)]; rfl
theorem AH.get_set (h : AH) (i : Nat) (o : AO) (j : Nat) : (h.set i o).get j = if j = i then o else h.get j := by
  simp only [AH.set]; cases hb : Nat.beq j i
  · rw [if_neg (Nat.ne_of_beq_eq_false hb)]; rfl
  · rw [if_pos (Nat.eq_of_beq_eq_true hb)]; rfl

/-- The object may be written. -/
def AO.wr : AO → Prop
  | .dead => False
  | .cells _ _ m => m ≠ .ro
  | .map _ => True
  | .raw _ => True
def AO.live : AO → Prop
  | .dead => False
  | _ => True
theorem AO.wr.live {o : AO} (h : o.wr) : o.live := by cases o <;> first | exact h.elim | trivial

structure Rowed (B : Nat) (σ : Sig) (w : World) (i : Nat) (cs : List AV) (t : TypeId) (m : Mode) (size : TypeId → Option Nat) : Prop where
  row : ∃ c e fr, w.heap[(σ.at_ i).block]? = some (.cells c e fr) ∧ (∀ k v, cs[k]? = some v → ∃ u, c[(σ.at_ i).off + k]? = some u ∧ VR σ v u) ∧
    (m ≠ .ro → B ≤ (σ.at_ i).block ∧ (σ.at_ i).off = 0 ∧ (fr.1 = fr.2 ∨ c.size ≤ fr.1) ∧ (m = .own → c.size = cs.length) ∧
      (m = .loose → ∃ s, size t = some s ∧ 0 < s ∧ c.size = (σ.at_ i).cap * s ∧ (σ.at_ i).cap ≤ maxLen ∧ cs.length ≤ c.size))

/-- When a map's entries were made: each before now, no two at once. -/
def Born (en : Array MapEntry) (cl : Nat) : Prop :=
  (∀ (k : Nat) (e : MapEntry), en[k]? = some e → e.born < cl) ∧ ∀ (i j : Nat) (a b : MapEntry), en[i]? = some a → en[j]? = some b → a.born = b.born → i = j
def Mapped (B : Nat) (σ : Sig) (w : World) (i : Nat) (es : List (List UInt8 × AV)) : Prop :=
  B ≤ (σ.at_ i).block ∧ ∃ en clock, w.heap[(σ.at_ i).block]? = some (.map en clock) ∧ en.size = es.length ∧
    (∀ (k : Nat) (x : List UInt8 × AV) (e : MapEntry), es[k]? = some x → en[k]? = some e → e.key = .string ⟨x.1.toArray⟩ ∧ VR σ x.2 e.val) ∧ Born en clock

def OR (B : Nat) (σ : Sig) (w : World) (size : TypeId → Option Nat) (i : Nat) : AO → Prop
  | .dead => True
  | .cells cs t m => Rowed B σ w i cs t m size
  | .map es => Mapped B σ w i es
  | .raw o => B ≤ (σ.at_ i).block ∧ w.heap[(σ.at_ i).block]? = some o

/-- How an abstract heap stands to a world: 'W0' is the world at the start, below 'B' nothing has turned. -/
structure R (size : TypeId → Option Nat) (B : Nat) (W0 : World) (σ : Sig) (h : AH) (w : World) : Prop where
  below : Below B W0 w
  hB : B ≤ W0.heap.size
  n : σ.n = h.next
  obj : ∀ i, i < h.next → OR B σ w size i (h.get i)
  sep : ∀ i j, i < h.next → j < h.next → i ≠ j → (h.get i).wr → (h.get j).live → (σ.at_ i).block ≠ (σ.at_ j).block

section
variable {size : TypeId → Option Nat} {B : Nat} {W0 : World} {σ τ : Sig} {h : AH} {w w' : World}

theorem R.le (r : R size B W0 σ h w) : B ≤ w.heap.size := Nat.le_trans r.hB r.below.size

theorem block_lt {w : World} {b : Nat} {o : Obj} (h : w.heap[b]? = some o) : b < w.heap.size := by
  rcases Nat.lt_or_ge b w.heap.size with h1 | h1
  · exact h1
  · rw [Array.getElem?_eq_none h1] at h; cases h

theorem OR.lt {i : Nat} {o : AO} (h : OR B σ w size i o) (hl : o.live) : (σ.at_ i).block < w.heap.size := by
  cases o with
  | dead => exact hl.elim
  | cells cs t m => obtain ⟨c, e, fr, hb, _⟩ := h.row; exact block_lt hb
  | map es => obtain ⟨_, en, cl, hb, _⟩ := h; exact block_lt hb
  | raw o => exact block_lt h.2

/-- An object stays as it is where its block stays. -/
theorem OR.keep {i : Nat} {o : AO} (h : OR B σ w size i o) (hi : i < σ.n) (se : SE σ τ) (hb : o.live → w'.heap[(σ.at_ i).block]? = w.heap[(σ.at_ i).block]?) : OR B τ w' size i o := by
  cases o with
  | dead => trivial
  | cells cs t m =>
    obtain ⟨c, e, fr, hb0, hc, hm⟩ := h.row
    refine ⟨c, e, fr, by rw [se.at_ i hi, hb trivial]; exact hb0, fun k v hv => ?_, fun hne => by rw [se.at_ i hi]; exact hm hne⟩
    obtain ⟨u, hu, hr⟩ := hc k v hv
    exact ⟨u, by rw [se.at_ i hi]; exact hu, VR.mono se _ _ hr⟩
  | map es =>
    obtain ⟨hB, en, cl, hb0, hn, hm, hbn⟩ := h
    refine ⟨by rw [se.at_ i hi]; exact hB, en, cl, by rw [se.at_ i hi, hb trivial]; exact hb0, hn, fun k x e hx he => ?_, hbn⟩
    obtain ⟨h1, h2⟩ := hm k x e hx he
    exact ⟨h1, VR.mono se _ _ h2⟩
  | raw o => exact ⟨by rw [se.at_ i hi]; exact h.1, by rw [se.at_ i hi, hb trivial]; exact h.2⟩

/-- The world may grow and draw; what the heap names stays. -/
theorem R.world (r : R size B W0 σ h w) (hb : Below w.heap.size w w') : R size B W0 σ h w' :=
  ⟨r.below.trans (hb.mono r.le), r.hB, r.n, fun i hi => (r.obj i hi).keep (by rw [r.n]; exact hi) (SE.refl _) fun hl => hb.block _ ((r.obj i hi).lt hl), r.sep⟩

def Sig.add (σ : Sig) (p : Place) : Sig := ⟨σ.n + 1, fun i => if i = σ.n then p else σ.at_ i⟩
theorem Sig.se_add (σ : Sig) (p : Place) : SE σ (σ.add p) := ⟨Nat.le_succ _, fun i hi => by simp only [Sig.add]; rw [if_neg (by omega)]⟩
theorem Sig.at_add (σ : Sig) (p : Place) : (σ.add p).at_ σ.n = p := by simp [Sig.add]

/-- A new object in a new block. -/
theorem R.push (r : R size B W0 σ h w) {o : AO} {p : Place} (hbl : Below w.heap.size w w') (hp : w.heap.size ≤ p.block)
    (ho : OR B (σ.add p) w' size σ.n o) : R size B W0 (σ.add p) (h.push o) w' := by
  have r' := r.world hbl
  refine ⟨r'.below, r.hB, by simp [Sig.add, r.n], fun i hi => ?_, fun i j hi hj hne hw hl => ?_⟩
  · rw [AH.get_push]
    split
    · rename_i e; subst e; rw [← r.n]; exact ho
    · rename_i e
      have hi' : i < h.next := by simp at hi; omega
      exact (r'.obj i hi').keep (by rw [r.n]; exact hi') (σ.se_add p) fun _ => rfl
  · rw [AH.get_push] at hw hl
    have at1 : ∀ k, k < h.next → (σ.add p).at_ k = σ.at_ k := fun k hk => (σ.se_add p).at_ k (by rw [r.n]; exact hk)
    have at2 : (σ.add p).at_ h.next = p := by rw [← r.n]; exact σ.at_add p
    simp at hi hj
    by_cases ei : i = h.next
    · subst ei
      have hj' : j < h.next := by omega
      rw [if_neg (by omega)] at hl
      rw [at2, at1 j hj']
      have := (r.obj j hj').lt hl
      omega
    · have hi' : i < h.next := by omega
      rw [if_neg ei] at hw
      by_cases ej : j = h.next
      · subst ej
        rw [at2, at1 i hi']
        have := (r.obj i hi').lt hw.live
        omega
      · have hj' : j < h.next := by omega
        rw [if_neg ej] at hl
        rw [at1 i hi', at1 j hj']
        exact r.sep i j hi' hj' hne hw hl

/-- An object is written: its block alone turns. -/
theorem R.set (r : R size B W0 σ h w) {i : Nat} {o : AO} (hi : i < h.next) (hw : (h.get i).wr) (hs : w'.heap.size = w.heap.size) (hos : w'.os = w.os) (htp : w'.tape = w.tape) (hout : w'.output = w.output)
    (hbk : ∀ k, k ≠ (σ.at_ i).block → w'.heap[k]? = w.heap[k]?) (hBi : B ≤ (σ.at_ i).block) (ho : OR B σ w' size i o) : R size B W0 σ (h.set i o) w' := by
  refine ⟨r.below.trans ⟨hos, htp, hout, by omega, fun k hk => hbk k (by omega)⟩, r.hB, r.n, fun j hj => ?_, fun a b ha hb hne hwa hlb => ?_⟩
  · rw [AH.get_set]
    split
    · rename_i e; subst e; exact ho
    · rename_i e
      exact (r.obj j hj).keep (by rw [r.n]; exact hj) (SE.refl _) fun hl => hbk _ fun eb => r.sep i j hi hj (fun x => e x.symm) hw hl eb.symm
  · rw [AH.get_set] at hwa hlb
    have lv : ∀ x, x < h.next → (if x = i then o else h.get x).live → (h.get x).live := fun x _ hx => by
      split at hx
      · rename_i e; subst e; exact hw.live
      · exact hx
    have wv : ∀ x, x < h.next → (if x = i then o else h.get x).wr → (h.get x).wr := fun x _ hx => by
      split at hx
      · rename_i e; subst e; exact hw
      · exact hx
    exact r.sep a b ha hb hne (wv a ha hwa) (lv b hb hlb)

/-- A dead object: nothing is said of it any more. -/
theorem R.kill (r : R size B W0 σ h w) (i : Nat) : R size B W0 σ (h.set i .dead) w := by
  refine ⟨r.below, r.hB, r.n, fun j hj => ?_, fun a b ha hb hne hwa hlb => ?_⟩
  · rw [AH.get_set]; split
    · trivial
    · exact r.obj j hj
  · rw [AH.get_set] at hwa hlb
    have : a ≠ i := fun e => by rw [if_pos e] at hwa; exact hwa
    have hb' : b ≠ i := fun e => by rw [if_pos e] at hlb; exact hlb
    rw [if_neg this] at hwa
    rw [if_neg hb'] at hlb
    exact r.sep a b ha hb hne hwa hlb
end
end Go.Proofs.Yteblojfcalgoeaa

/- The abstract machine: the operations that only read. Conditions: none. -/
namespace Go.Proofs.Yteblojfcalgoeaa
open Go Go.RowKit

structure TI where
  und : TypeDesc
  size : Nat
  bytes : Nat
  zero : AV

inductive Out where
  | ret (v : AV) (h : AH)
  | pan (v : AV) (h : AH)

/-- What lies at the bottom of a struct or an array that is compared. -/
inductive Leaf where
  | int | str | bool

structure Env where
  fn : FuncId → Option Func
  ty : TypeId → Option TI
  meth : TypeId → String → Option FuncId
  leaf : TypeId → Option (List Leaf)

def AV.cells : AV → List AV
  | .agg cs => cs
  | v => [v]
def AV.atom : AV → Bool
  | .agg _ | .tup _ | .bad => false
  | _ => true
def AV.good : AV → Bool
  | .tup _ | .bad => false
  | _ => true

def eqLeaf : List Leaf → List AV → List AV → Option Bool
  | [], [], [] => some true
  | .int :: l, .int k a :: xs, .int k' b :: ys => if k = k' then (match eqLeaf l xs ys with | some r => some (a == b && r) | none => none) else none
  | .str :: l, .str a :: xs, .str b :: ys => match eqLeaf l xs ys with | some r => some (a == b && r) | none => none
  | .bool :: l, .bool a :: xs, .bool b :: ys => match eqLeaf l xs ys with | some r => some (a == b && r) | none => none
  | _, _, _ => none

/-- What the environment says is true of the program. -/
structure EnvT (P : Program) (E : Env) : Prop where
  fn : ∀ f F, E.fn f = some F → P.funcs[f]? = some F ∧ F.body.isSome = true ∧ (F.name == "runtime.NumGoroutine") = false
  ty : ∀ t i, E.ty t = some i → P.underlying t = some i.und ∧ ∃ j, P.info? t = some j ∧ j.size = i.size ∧ j.bytes = i.bytes ∧ ∃ z, j.zero = some z ∧ i.zero.good = true ∧ (∀ c ∈ i.zero.cells, c.atom = true) ∧ i.zero.cells.length = i.size ∧ ∀ σ, VR σ i.zero z
  meth : ∀ t m f, E.meth t m = some f → ∀ a (w : World), (method (P.types.size + Made.depth) t (.pointer (some a)) m).run P w = .ok (f, .pointer (some a)) w
  leaf : ∀ t l, E.leaf t = some l → P.eqGuardType P.depth t = false ∧ ∀ (σ : Sig) (xs ys : List AV) (vs us : Array Value) (b : Bool) (w : World), VRL σ xs vs.toList → VRL σ ys us.toList → eqLeaf l xs ys = some b → (Op.equalIn 10000 t (.agg vs) (.agg us)).run P w = .ok b w
  mixed : P.follows .mixedOrders = true

def Env.size (E : Env) (t : TypeId) : Option Nat := (E.ty t).map (·.size)

section
variable {P : Program} {E : Env} {σ : Sig}

theorem EnvT.und (ok : EnvT P E) {t : TypeId} {i : TI} (h : E.ty t = some i) (w : World) : (underlying t).run P w = .ok i.und w := run_underlying (ok.ty t i h).1 w
theorem EnvT.sizeOf (ok : EnvT P E) {t : TypeId} {i : TI} (h : E.ty t = some i) (w : World) : (Go.sizeOf t).run P w = .ok i.size w := by
  obtain ⟨j, hj, hs, _⟩ := (ok.ty t i h).2
  simp [Go.sizeOf, typeInfo, hj, hs]

theorem VR.cells {a : AV} {v : Value} (h : VR σ a v) (hg : a.good = true) : VRL σ a.cells v.cells.toList := by
  cases a <;> simp only [AV.good, Bool.false_eq_true] at hg <;> simp only [VR] at h
  case agg cs => obtain ⟨a, rfl, h⟩ := h; exact h
  case ptr => obtain ⟨h1, rfl⟩ := h; simp [AV.cells, Value.cells, VRL, VR, h1]
  case sl i o n c l =>
    have h0 := h
    obtain ⟨h1, h2⟩ := h
    cases l
    · simp only [Bool.false_eq_true, if_false] at h2
      obtain ⟨rfl, hn⟩ := h2
      simp [AV.cells, Value.cells, VRL, VR, h1, hn]
    · simp only [if_true] at h2
      obtain ⟨c', rfl, h3⟩ := h2
      simpa [AV.cells, Value.cells, VRL, VR] using h0
  case emp => obtain ⟨a, c, rfl⟩ := h; simp [AV.cells, Value.cells, VRL, VR]
  case map => obtain ⟨h1, rfl⟩ := h; simp [AV.cells, Value.cells, VRL, VR, h1]
  case fn f fs cs =>
    obtain ⟨a, b, rfl, h1, h2⟩ := h
    simp only [AV.cells, Value.cells, VRL, VR]
    exact ⟨_, [], rfl, ⟨a, b, rfl, h1, h2⟩, rfl⟩
  case iface t x => obtain ⟨y, rfl, h1⟩ := h; simp [AV.cells, Value.cells, VRL, VR, h1]
  all_goals (subst h; simp [AV.cells, Value.cells, VRL, VR])

theorem VR.atom {a : AV} {v : Value} (h : VR σ a v) (ha : a.atom = true) : v.cells = #[v] ∧ v.oneCell' = true := by
  cases a <;> simp only [AV.atom, Bool.false_eq_true] at ha <;> simp only [VR] at h
  case ptr => obtain ⟨h1, rfl⟩ := h; exact ⟨rfl, rfl⟩
  case sl i o n c l =>
    obtain ⟨h1, h2⟩ := h
    cases l
    · simp only [Bool.false_eq_true, if_false] at h2
      obtain ⟨rfl, hn⟩ := h2
      exact ⟨rfl, rfl⟩
    · simp only [if_true] at h2
      obtain ⟨c', rfl, h3⟩ := h2
      exact ⟨rfl, rfl⟩
  case emp => obtain ⟨a, c, rfl⟩ := h; exact ⟨rfl, rfl⟩
  case map => obtain ⟨h1, rfl⟩ := h; exact ⟨rfl, rfl⟩
  case fn f fs cs => obtain ⟨a, b, rfl, h1, h2⟩ := h; exact ⟨rfl, rfl⟩
  case iface t x => obtain ⟨y, rfl, h1⟩ := h; exact ⟨rfl, rfl⟩
  all_goals (subst h; exact ⟨rfl, rfl⟩)
end

/-! ## Operands -/
def ofV : Value → AV
  | .bool b => .bool b
  | .int k n => .int k n
  | .string s => .str s.data.toList
  | .pointer none => .nilp
  | .slice none 0 0 => .nils
  | .map none => .nilm
  | .nilFunc => .nilf
  | .nilIface => .nili
  | _ => .bad
theorem VR.ofV {σ : Sig} (v : Value) : VR σ (ofV v) v := by
  unfold Yteblojfcalgoeaa.ofV
  split <;> simp only [VR]

def ev (fr : Nat → AV) : Operand → AV
  | .tmp t => fr t
  | .const v => ofV v
  | .global _ => .bad
  | .func f => .fn (.func f) [] []

def FR (σ : Sig) (fr : Nat → AV) (a : Act) : Prop := ∀ t, VR σ (fr t) (a.tmps.getD t undef)
theorem FR.mono {σ τ : Sig} {fr : Nat → AV} {a : Act} (h : FR σ fr a) (se : SE σ τ) : FR τ fr a := fun t => VR.mono se _ _ (h t)
theorem FR.ev {σ : Sig} {fr : Nat → AV} {a : Act} (h : FR σ fr a) (x : Operand) : VR σ (ev fr x) (a.eval x) := by
  cases x with
  | tmp t => exact h t
  | const v => exact VR.ofV v
  | global g => simp only [Yteblojfcalgoeaa.ev, VR]
  | func f => simp [Yteblojfcalgoeaa.ev, VR, VRL, Act.eval]

/-! ## Reading -/
def aggOf : TypeDesc → Bool
  | .struct _ | .array _ _ => true
  | _ => false

def aLoad (E : Env) (h : AH) (t : TypeId) : AV → Option AV
  | .ptr i o =>
    match h.get i, E.ty t with
    | .cells cs _ _, some ti =>
      bif aggOf ti.und then (bif Nat.ble (o + ti.size) cs.length then some (.agg ((cs.drop o).take ti.size)) else none)
      else cs[o]?
    | _, _ => none
  | _ => none

/-- The first m cells from where a slice begins. -/
def getCells (h : AH) (m : Nat) : AV → Option (List AV)
  | .sl i o _ _ _ =>
    match h.get i with
    | .cells cs _ _ => bif Nat.ble (o + m) cs.length then some ((cs.drop o).take m) else none
    | _ => none
  | .nils => bif Nat.beq m 0 then some [] else none
  | .emp => bif Nat.beq m 0 then some [] else none
  | _ => none

def bytesOf : List AV → Option (List UInt8)
  | [] => some []
  | .int .u8 n :: r => match bytesOf r with
    | some l => some (UInt8.ofNat n.toNat :: l)
    | none => none
  | _ => none

section
variable {P : Program} {E : Env} {σ : Sig} {B : Nat} {W0 : World} {h : AH} {w : World} {size : TypeId → Option Nat}

theorem R.cells (r : R size B W0 σ h w) {i : Nat} (hi : i < σ.n) {cs : List AV} {t : TypeId} {m : Mode} (ho : h.get i = .cells cs t m) :
    ∀ (k : Nat) (v : AV), cs[k]? = some v → ∃ u, w.cell? (σ.addr i k) = some u ∧ VR σ v u := by
  intro k v hv
  have := r.obj i (by rw [← r.n]; exact hi)
  rw [ho] at this
  obtain ⟨c, e, fr, hb, hc, _⟩ := this.row
  obtain ⟨u, hu, hr⟩ := hc k v hv
  exact ⟨u, by simp [World.cell?, Sig.addr, hb, hu], hr⟩

theorem R.run_load (r : R size B W0 σ h w) {i : Nat} (hi : i < σ.n) {cs : List AV} {t : TypeId} {m : Mode} (ho : h.get i = .cells cs t m) {o : Nat} {v : AV} (hv : cs[o]? = some v) :
    ∃ u, (load (σ.addr i o)).run P w = .ok u w ∧ VR σ v u := by
  obtain ⟨u, hu, hr⟩ := r.cells hi ho o v hv
  exact ⟨u, by simp [Go.run_load, hu], hr⟩

theorem addr_add (i o j : Nat) : (σ.addr i o).add j = σ.addr i (o + j) := by
  unfold Sig.addr Addr.add
  split
  · rename_i e; subst e; rfl
  · simp [Nat.add_assoc]

theorem R.run_cells (r : R size B W0 σ h w) {i : Nat} (hi : i < σ.n) {cs : List AV} {t : TypeId} {m : Mode} (ho : h.get i = .cells cs t m) {o n : Nat} (hn : o + n ≤ cs.length) :
    ∃ us : Array Value, (loadCells (σ.addr i o) n).run P w = .ok us w ∧ VRL σ ((cs.drop o).take n) us.toList := by
  have hx : ∀ j, ∃ u, j < n → (w.cell? (σ.addr i (o + j)) = some u ∧ ∀ v, cs[o + j]? = some v → VR σ v u) := by
    intro j
    by_cases hj : j < n
    · have hl : o + j < cs.length := by omega
      obtain ⟨u, hu, hr⟩ := r.cells hi ho (o + j) _ (List.getElem?_eq_getElem hl)
      exact ⟨u, fun _ => ⟨hu, fun v hv => by rw [List.getElem?_eq_getElem hl] at hv; cases hv; exact hr⟩⟩
    · exact ⟨.nilFunc, fun h => absurd h hj⟩
  obtain ⟨f, hf⟩ := Classical.axiomOfChoice hx
  have hrun := run_loadCells (P := P) (w := w) (σ.addr i o) n f (fun j hj => by rw [addr_add]; exact (hf j hj).1)
  refine ⟨_, hrun, VRL.of_get ?_ fun k x y hx hy => ?_⟩
  · simp; omega
  · have hk : k < n := by
      have := (List.getElem?_eq_some_iff.1 hx).1
      simp at this; omega
    have h1 : cs[o + k]? = some x := by
      rw [List.getElem?_take, if_pos hk, List.getElem?_drop] at hx; exact hx
    have h2 : y = f k := by
      simp [hk] at hy
      exact hy.symm
    subst h2
    exact (hf k hk).2 x h1

theorem aLoad_sound (ok : EnvT P E) (r : R size B W0 σ h w) {t : TypeId} {x : AV} {v : Value} (hv : VR σ x v) {y : AV} (he : aLoad E h t x = some y) :
    ∃ u, (Instr.loadAt t v).run P w = .ok u w ∧ VR σ y u := by
  unfold aLoad at he
  split at he
  · rename_i i o
    simp only [VR] at hv
    obtain ⟨hi, rfl⟩ := hv
    split at he
    · rename_i cs t' m ti hg ht
      have hu := ok.und ht w
      have hs := ok.sizeOf ht w
      cases hagg : aggOf ti.und
      · simp only [hagg, cond_false] at he
        obtain ⟨u, hr, hx⟩ := r.cells hi hg o y he
        refine ⟨u, ?_, hx⟩
        have : (isAgg t).run P w = .ok false w := by
          simp only [isAgg, Sem.run_bind, hu, Result.andThen_ok]
          cases hd : ti.und <;> simp [hd, aggOf] at hagg ⊢
        simp [Instr.loadAt, Instr.sureAddr, loadVar, this, hr]
      · simp only [hagg, cond_true] at he
        cases hb : Nat.ble (o + ti.size) cs.length
        · rw [hb] at he; cases he
        · rw [hb] at he; simp at he; subst he
          have hle : o + ti.size ≤ cs.length := Nat.le_of_ble_eq_true hb
          obtain ⟨us, hr, hx⟩ := r.run_cells (P := P) hi hg hle
          refine ⟨.agg us, ?_, by simp only [VR]; exact ⟨us, rfl, hx⟩⟩
          have : (isAgg t).run P w = .ok true w := by
            simp only [isAgg, Sem.run_bind, hu, Result.andThen_ok]
            cases hd : ti.und <;> simp [hd, aggOf] at hagg ⊢
          simp [Instr.loadAt, Instr.sureAddr, loadVar, this, hs, hr]
    · cases he
  · cases he

theorem getCells_sound (r : R size B W0 σ h w) {x : AV} {v : Value} (hv : VR σ x v) {sz n : Nat} {cs : List AV} (he : getCells h (n * sz) x = some cs) :
    ∃ us : Array Value, (Builtin.firstCells sz n v).run P w = .ok us w ∧ VRL σ cs us.toList := by
  unfold getCells at he
  split at he
  · rename_i i o n' c l
    simp only [VR] at hv
    split at he
    · rename_i cs' t' m hg
      cases hb : Nat.ble (o + n * sz) cs'.length
      · rw [hb] at he; cases he
      · rw [hb] at he; simp at he; subst he
        have hle := Nat.le_of_ble_eq_true hb
        obtain ⟨us, hr, hx⟩ := r.run_cells (P := P) hv.1 hg hle
        have : ∃ c', v = .slice (some (σ.addr i o)) n' c' := by
          cases l
          · simp only [Bool.false_eq_true, if_false] at hv; exact ⟨_, hv.2.1⟩
          · simp only [if_true] at hv; obtain ⟨c', h1, _⟩ := hv.2; exact ⟨c', h1⟩
        obtain ⟨c', rfl⟩ := this
        exact ⟨us, by simp [Builtin.firstCells, hr], hx⟩
    · cases he
  · simp only [VR] at hv; subst hv
    cases hb : Nat.beq (n * sz) 0
    · rw [hb] at he; cases he
    · rw [hb] at he; simp at he; subst he
      exact ⟨#[], by simp [Builtin.firstCells], by simp [VRL]⟩
  · simp only [VR] at hv
    obtain ⟨a, c, rfl⟩ := hv
    cases hb : Nat.beq (n * sz) 0
    · rw [hb] at he; cases he
    · rw [hb] at he; simp at he; subst he
      have := Nat.eq_of_beq_eq_true hb
      exact ⟨#[], by simp [Builtin.firstCells, this, loadCells, loadCellsFrom], by simp [VRL]⟩
  · cases he
end
end Go.Proofs.Yteblojfcalgoeaa

/- The abstract machine: the operations that only read, all in one. Conditions: none. -/
namespace Go.Proofs.Yteblojfcalgoeaa
open Go Go.RowKit

/-! ## Numbers, texts, comparisons -/
def frcN {α : Type} (n : Nat) (k : Nat → α) : α := match n with | 0 => k 0 | m + 1 => k (m + 1)
theorem frcN_eq {α : Type} (n : Nat) (k : Nat → α) : frcN n k = k n := by cases n <;> rfl
def frcI {α : Type} (n : Int) (k : Int → α) : α := match n with | .ofNat m => frcN m fun m => k (.ofNat m) | .negSucc m => frcN m fun m => k (.negSucc m)
theorem frcI_eq {α : Type} (n : Int) (k : Int → α) : frcI n k = k n := by cases n <;> simp [frcI, frcN_eq]

def mkI (k : IntKind) (n : Int) : Option AV := frcI n fun m => some (.int k m)
theorem mkI_eq (k : IntKind) (n : Int) : mkI k n = some (.int k n) := frcI_eq _ _

def aInt (op : BinOp) (k : IntKind) (a b : Int) : Option AV :=
  match op with
  | .add => mkI k (k.wrap (a + b))
  | .sub => mkI k (k.wrap (a - b))
  | .mul => mkI k (k.wrap (a * b))
  | .quo => bif decide (b = 0) then none else mkI k (k.wrap (a.tdiv b))
  | .rem => bif decide (b = 0) then none else mkI k (a.tmod b)
  | .and => mkI k (k.wrap (BitVec.ofInt k.bits a &&& BitVec.ofInt k.bits b).toNat)
  | .or => mkI k (k.wrap (BitVec.ofInt k.bits a ||| BitVec.ofInt k.bits b).toNat)
  | .xor => mkI k (k.wrap (BitVec.ofInt k.bits a ^^^ BitVec.ofInt k.bits b).toNat)
  | .andNot => mkI k (k.wrap (BitVec.ofInt k.bits a &&& ~~~BitVec.ofInt k.bits b).toNat)
  | .eql => some (.bool (a == b))
  | .neq => some (.bool (a != b))
  | .lss => some (.bool (decide (a < b)))
  | .leq => some (.bool (decide (a ≤ b)))
  | .gtr => some (.bool (decide (a > b)))
  | .geq => some (.bool (decide (a ≥ b)))
  | _ => none

def aShift (op : BinOp) (k : IntKind) (a b : Int) : Option AV :=
  bif decide (b < 0) then none else
  match op with
  | .shl => mkI k (k.wrap (a * 2 ^ (min b.toNat k.bits)))
  | .shr => mkI k (a.fdiv (2 ^ (min b.toNat k.bits)))
  | _ => none

def aStr (op : BinOp) (x y : List UInt8) : Option AV :=
  match op with
  | .add => bif decide ((x.length + y.length : Nat) ≤ 9223372036854775807) then some (.str (x ++ y)) else none
  | .eql => some (.bool (x == y))
  | .neq => some (.bool !(x == y))
  | .lss => some (.bool (Op.bytesLess x y))
  | .leq => some (.bool (Op.bytesLess x y || x == y))
  | .gtr => some (.bool !(Op.bytesLess x y || x == y))
  | .geq => some (.bool !(Op.bytesLess x y))
  | _ => none

/-- '==' where one side is nil, or of bools, or of structs and arrays of numbers, bools and texts. -/
def aEq (E : Env) (t : TypeId) (x y : AV) : Option Bool :=
  match E.ty t with
  | some ti =>
    match ti.und, x, y with
    | .bool, .bool a, .bool b => some (a == b)
    | .pointer _, .nilp, .nilp => some true
    | .pointer _, .nilp, .ptr _ _ => some false
    | .pointer _, .ptr _ _, .nilp => some false
    | .slice _, .nils, .nils => some true
    | .slice _, .nils, .sl _ _ _ _ _ => some false
    | .slice _, .sl _ _ _ _ _, .nils => some false
    | .slice _, .emp, .nils => some false
    | .slice _, .nils, .emp => some false
    | .map _ _, .nilm, .nilm => some true
    | .map _ _, .map _, .nilm => some false
    | .map _ _, .nilm, .map _ => some false
    | .func _ _ _, .nilf, .nilf => some true
    | .func _ _ _, .fn _ _ _, .nilf => some false
    | .func _ _ _, .nilf, .fn _ _ _ => some false
    | .interface _, .iface _ _, .nili => some false
    | .interface _, .nili, .iface _ _ => some false
    | _, .agg xs, .agg ys => match E.leaf t with
      | some l => eqLeaf l xs ys
      | none => none
    | _, _, _ => none
  | none => none

def aBin (E : Env) (op : BinOp) (t : TypeId) (x y : AV) : Option AV :=
  match x, y with
  | .int k a, .int k' b =>
    match op with
    | .shl | .shr => aShift op k a b
    | _ => if k = k' then aInt op k a b else none
  | .str a, .str b => aStr op a b
  | x, y =>
    match op with
    | .eql => match aEq E t x y with | some b => some (.bool b) | none => none
    | .neq => match aEq E t x y with | some b => some (.bool !b) | none => none
    | _ => none

def aUn (op : UnOp) (x : AV) : Option AV :=
  match op, x with
  | .neg, .int k n => mkI k (k.wrap (0 - n))
  | .xor, .int k n => mkI k (k.wrap (BitVec.ofInt k.bits (if k.signed then -1 else k.max) ^^^ BitVec.ofInt k.bits n).toNat)
  | .not, .bool b => some (.bool !b)
  | _, _ => none

section
variable {P : Program} {E : Env} {σ : Sig} {w : World}

theorem aInt_sound {op : BinOp} {k : IntKind} {a b : Int} {y : AV} (he : aInt op k a b = some y) (t : TypeId) :
    ∃ v, (binOp op t (.int k a) (.int k b)).run P w = .ok v w ∧ VR σ y v := by
  cases op <;> simp only [aInt, mkI_eq, Option.some.injEq, reduceCtorEq, cond_eq_ite, decide_eq_true_eq] at he
  case quo =>
    split at he
    · cases he
    · rename_i hb; cases he; exact ⟨_, by simp [binOp, Op.intDiv, hb]; rfl, by simp only [VR]⟩
  case rem =>
    split at he
    · cases he
    · rename_i hb; cases he; exact ⟨_, by simp [binOp, Op.intDiv, hb]; rfl, by simp only [VR]⟩
  case and => subst he; exact ⟨_, by rw [binOp_and]; rfl, by simp only [VR]⟩
  case or => subst he; exact ⟨_, by rw [binOp_or]; rfl, by simp only [VR]⟩
  case xor => subst he; exact ⟨_, by rw [binOp_xor]; rfl, by simp only [VR]⟩
  case andNot => subst he; exact ⟨_, by rw [binOp_andNot]; rfl, by simp only [VR]⟩
  all_goals (subst he; exact ⟨_, by simp [binOp, Op.intArith, Op.intCmp]; rfl, by simp only [VR]⟩)

theorem aShift_sound {op : BinOp} {k k' : IntKind} {a b : Int} {y : AV} (he : aShift op k a b = some y) (t : TypeId) :
    ∃ v, (binOp op t (.int k a) (.int k' b)).run P w = .ok v w ∧ VR σ y v := by
  unfold aShift at he
  rw [cond_eq_ite] at he
  split at he
  · cases he
  · rename_i hb
    have hb' : ¬ b < 0 := by simpa using hb
    cases op <;> simp only [mkI_eq, Option.some.injEq, reduceCtorEq] at he
    all_goals (subst he; exact ⟨_, by simp [binOp, Op.shift, hb']; rfl, by simp only [VR]⟩)

theorem str_toList (s : List UInt8) : (ByteArray.mk s.toArray).toList = s := by
  rw [ByteArray.toList_eq]

theorem aStr_sound {op : BinOp} {a b : List UInt8} {y : AV} (he : aStr op a b = some y) (t : TypeId) :
    ∃ v, (binOp op t (.string ⟨a.toArray⟩) (.string ⟨b.toArray⟩)).run P w = .ok v w ∧ VR σ y v := by
  have hs : ∀ l : List UInt8, (ByteArray.mk l.toArray).size = l.length := fun l => by simp [ByteArray.size]
  have e : binOp op t (.string ⟨a.toArray⟩) (.string ⟨b.toArray⟩) = Op.stringOp op ⟨a.toArray⟩ ⟨b.toArray⟩ := by cases op <;> rfl
  rw [e]
  cases op <;> simp only [aStr, Option.some.injEq, reduceCtorEq, cond_eq_ite, decide_eq_true_eq] at he
  case add =>
    split at he
    · rename_i hl
      cases he
      refine ⟨.string ⟨(a ++ b).toArray⟩, ?_, by simp only [VR]⟩
      have h1 : ¬ (((ByteArray.mk a.toArray).size + (ByteArray.mk b.toArray).size : Nat) : Int) > IntKind.i64.max := by
        rw [hs, hs, IntKind.max_i64]; omega
      have h2 : (ByteArray.mk a.toArray) ++ (ByteArray.mk b.toArray) = ByteArray.mk (a ++ b).toArray := by
        apply ByteArray.ext; simp
      simp only [Op.stringOp, h1, if_false, h2]; rfl
    · cases he
  all_goals (subst he; exact ⟨_, by simp only [Op.stringOp, str_toList]; rfl, by simp only [VR]⟩)

theorem eqGuard_iface (op : BinOp) (t : TypeId) (x y : Operand) (d : TypeId) (u : Value) : eqGuard op t x y (.iface d u) .nilIface = pure () := by cases op <;> rfl

theorem VR.sl_inv {i o n c : Nat} {l : Bool} {v : Value} (h : VR σ (.sl i o n c l) v) : i < σ.n ∧ ∃ c', v = .slice (some (σ.addr i o)) n c' ∧ n ≤ c' ∧ (l = false → c' = c) ∧ (l = true → o = 0 → c' = (σ.at_ i).cap) := by
  simp only [VR] at h
  cases l
  · simp only [Bool.false_eq_true, if_false] at h; exact ⟨h.1, _, h.2.1, h.2.2, by simp, by simp⟩
  · simp only [if_true] at h; obtain ⟨c', h1, h2, h3⟩ := h.2; exact ⟨h.1, _, h1, h2, by simp, fun _ => h3⟩

theorem equal_of {t : TypeId} {a b : Value} {r : Bool} (key : ∀ d, (Op.equalIn (d + 1) t a b).run P w = .ok r w) : (Op.equal t a b).run P w = .ok r w := key 9999

theorem aEq_sound (ok : EnvT P E) {t : TypeId} {x y : AV} {a b : Value} (ha : VR σ x a) (hb : VR σ y b) {r : Bool} (he : aEq E t x y = some r) (ox oy : Operand) (op : BinOp) :
    (eqGuard op t ox oy a b).run P w = .ok () w ∧ (Op.equal t a b).run P w = .ok r w := by
  unfold aEq at he
  split at he
  case h_2 => cases he
  rename_i ti ht
  have hu : ∀ w, (underlying t).run P w = .ok ti.und w := fun w => ok.und ht w
  split at he
  case h_18 =>
    rename_i xs ys
    simp only [VR] at ha hb
    split at he
    · rename_i l hl
      obtain ⟨vs, rfl, h1⟩ := ha
      obtain ⟨us, rfl, h2⟩ := hb
      exact ⟨run_eqGuard_agg (w := w) op t ox oy vs us (ok.leaf t l hl).1, (ok.leaf t l hl).2 σ xs ys vs us r w h1 h2 he⟩
    · cases he
  case h_19 => cases he
  case h_1 hd =>
    simp only [VR] at ha; obtain rfl := ha
    simp only [VR] at hb; obtain rfl := hb
    simp only [Option.some.injEq] at he; subst he
    exact ⟨by simp only [eqGuard_at_bool]; rfl, equal_of fun d => by simp only [Op.equalIn, Sem.run_bind, hu, hd, Result.andThen_ok]; rfl⟩
  case h_2 hd =>
    simp only [VR] at ha; obtain rfl := ha
    simp only [VR] at hb; obtain rfl := hb
    simp only [Option.some.injEq] at he; subst he
    exact ⟨by simp only [eqGuard_at_pointer]; rfl, equal_of fun d => by simp only [Op.equalIn, Sem.run_bind, hu, hd, Result.andThen_ok]; rfl⟩
  case h_3 hd =>
    simp only [VR] at ha; obtain rfl := ha
    simp only [VR] at hb; obtain ⟨_, rfl⟩ := hb
    simp only [Option.some.injEq] at he; subst he
    exact ⟨by simp only [eqGuard_at_pointer]; rfl, equal_of fun d => by simp only [Op.equalIn, Sem.run_bind, hu, hd, Result.andThen_ok]; rfl⟩
  case h_4 hd =>
    simp only [VR] at ha; obtain ⟨_, rfl⟩ := ha
    simp only [VR] at hb; obtain rfl := hb
    simp only [Option.some.injEq] at he; subst he
    exact ⟨by simp only [eqGuard_at_pointer]; rfl, equal_of fun d => by simp only [Op.equalIn, Sem.run_bind, hu, hd, Result.andThen_ok]; rfl⟩
  case h_5 hd =>
    simp only [VR] at ha; obtain rfl := ha
    simp only [VR] at hb; obtain rfl := hb
    simp only [Option.some.injEq] at he; subst he
    exact ⟨by simp only [eqGuard_at_slice]; rfl, equal_of fun d => by simp only [Op.equalIn, Sem.run_bind, hu, hd, Result.andThen_ok]; rfl⟩
  case h_6 hd =>
    simp only [VR] at ha; obtain rfl := ha
    obtain ⟨_, _, rfl, _⟩ := VR.sl_inv hb
    simp only [Option.some.injEq] at he; subst he
    exact ⟨by simp only [eqGuard_at_slice]; rfl, equal_of fun d => by simp only [Op.equalIn, Sem.run_bind, hu, hd, Result.andThen_ok]; rfl⟩
  case h_7 hd =>
    obtain ⟨_, _, rfl, _⟩ := VR.sl_inv ha
    simp only [VR] at hb; obtain rfl := hb
    simp only [Option.some.injEq] at he; subst he
    exact ⟨by simp only [eqGuard_at_slice]; rfl, equal_of fun d => by simp only [Op.equalIn, Sem.run_bind, hu, hd, Result.andThen_ok]; rfl⟩
  case h_8 hd =>
    simp only [VR] at ha; obtain ⟨_, _, rfl⟩ := ha
    simp only [VR] at hb; obtain rfl := hb
    simp only [Option.some.injEq] at he; subst he
    exact ⟨by simp only [eqGuard_at_slice]; rfl, equal_of fun d => by simp only [Op.equalIn, Sem.run_bind, hu, hd, Result.andThen_ok]; rfl⟩
  case h_9 hd =>
    simp only [VR] at ha; obtain rfl := ha
    simp only [VR] at hb; obtain ⟨_, _, rfl⟩ := hb
    simp only [Option.some.injEq] at he; subst he
    exact ⟨by simp only [eqGuard_at_slice]; rfl, equal_of fun d => by simp only [Op.equalIn, Sem.run_bind, hu, hd, Result.andThen_ok]; rfl⟩
  case h_10 hd =>
    simp only [VR] at ha; obtain rfl := ha
    simp only [VR] at hb; obtain rfl := hb
    simp only [Option.some.injEq] at he; subst he
    exact ⟨by simp only [eqGuard_at_map]; rfl, equal_of fun d => by simp only [Op.equalIn, Sem.run_bind, hu, hd, Result.andThen_ok]; rfl⟩
  case h_11 hd =>
    simp only [VR] at ha; obtain ⟨_, rfl⟩ := ha
    simp only [VR] at hb; obtain rfl := hb
    simp only [Option.some.injEq] at he; subst he
    exact ⟨by simp only [eqGuard_at_map]; rfl, equal_of fun d => by simp only [Op.equalIn, Sem.run_bind, hu, hd, Result.andThen_ok]; rfl⟩
  case h_12 hd =>
    simp only [VR] at ha; obtain rfl := ha
    simp only [VR] at hb; obtain ⟨_, rfl⟩ := hb
    simp only [Option.some.injEq] at he; subst he
    exact ⟨by simp only [eqGuard_at_map]; rfl, equal_of fun d => by simp only [Op.equalIn, Sem.run_bind, hu, hd, Result.andThen_ok]; rfl⟩
  case h_13 hd =>
    simp only [VR] at ha; obtain rfl := ha
    simp only [VR] at hb; obtain rfl := hb
    simp only [Option.some.injEq] at he; subst he
    exact ⟨by simp only [eqGuard_at_nilFunc]; rfl, equal_of fun d => by simp only [Op.equalIn, Sem.run_bind, hu, hd, Result.andThen_ok]; rfl⟩
  case h_14 hd =>
    simp only [VR] at ha; obtain ⟨_, _, rfl, _, _⟩ := ha
    simp only [VR] at hb; obtain rfl := hb
    simp only [Option.some.injEq] at he; subst he
    exact ⟨by simp only [eqGuard_at_func]; rfl, equal_of fun d => by simp only [Op.equalIn, Sem.run_bind, hu, hd, Result.andThen_ok]; rfl⟩
  case h_15 hd =>
    simp only [VR] at ha; obtain rfl := ha
    simp only [VR] at hb; obtain ⟨_, _, rfl, _, _⟩ := hb
    simp only [Option.some.injEq] at he; subst he
    exact ⟨by simp only [eqGuard_at_nilFunc]; rfl, equal_of fun d => by simp only [Op.equalIn, Sem.run_bind, hu, hd, Result.andThen_ok]; rfl⟩
  case h_16 hd =>
    simp only [VR] at ha; obtain ⟨_, rfl, _⟩ := ha
    simp only [VR] at hb; obtain rfl := hb
    simp only [Option.some.injEq] at he; subst he
    exact ⟨by simp only [eqGuard_iface]; rfl, equal_of fun d => by simp only [Op.equalIn, Sem.run_bind, hu, hd, Result.andThen_ok]; rfl⟩
  case h_17 hd =>
    simp only [VR] at ha; obtain rfl := ha
    simp only [VR] at hb; obtain ⟨_, rfl, _⟩ := hb
    simp only [Option.some.injEq] at he; subst he
    exact ⟨by simp only [eqGuard_nil_iface]; rfl, equal_of fun d => by simp only [Op.equalIn, Sem.run_bind, hu, hd, Result.andThen_ok]; rfl⟩

theorem binOp_eql_gen (t : TypeId) (x y : Value) (hx : ∀ k n, x ≠ .int k n) (hs : ∀ s, x ≠ .string s) (hf : ∀ k n, x ≠ .float k n) (hc : ∀ k n m, x ≠ .complex k n m) : binOp .eql t x y = (do pure (.bool (← Op.equal t x y))) := by
  unfold binOp
  split <;> first | rfl | (exfalso; first | exact hx _ _ rfl | exact hs _ rfl | exact hf _ _ rfl | exact hc _ _ _ rfl) | simp_all
theorem binOp_neq_gen (t : TypeId) (x y : Value) (hx : ∀ k n, x ≠ .int k n) (hs : ∀ s, x ≠ .string s) (hf : ∀ k n, x ≠ .float k n) (hc : ∀ k n m, x ≠ .complex k n m) : binOp .neq t x y = (do pure (.bool (!(← Op.equal t x y)))) := by
  unfold binOp
  split <;> first | rfl | (exfalso; first | exact hx _ _ rfl | exact hs _ rfl | exact hf _ _ rfl | exact hc _ _ _ rfl) | simp_all

theorem VR.plain {x : AV} {v : Value} (h : VR σ x v) (hi : ∀ k n, x ≠ .int k n) (hs : ∀ s, x ≠ .str s) (hb : x ≠ .bad) : (∀ k n, v ≠ .int k n) ∧ (∀ s, v ≠ .string s) ∧ (∀ k n, v ≠ .float k n) ∧ (∀ k n m, v ≠ .complex k n m) := by
  cases x
  case int k n => exact absurd rfl (hi k n)
  case str s => exact absurd rfl (hs s)
  case bad => exact absurd rfl hb
  case sl => obtain ⟨_, _, rfl, _⟩ := VR.sl_inv h; simp
  all_goals simp only [VR] at h
  case ptr => obtain ⟨_, rfl⟩ := h; simp
  case emp => obtain ⟨_, _, rfl⟩ := h; simp
  case map => obtain ⟨_, rfl⟩ := h; simp
  case fn => obtain ⟨_, _, rfl, _⟩ := h; simp
  case iface => obtain ⟨_, rfl, _⟩ := h; simp
  case agg => obtain ⟨_, rfl, _⟩ := h; simp
  case tup => obtain ⟨_, rfl, _⟩ := h; simp
  all_goals (subst h; simp)

theorem aEq_plain {t : TypeId} {x y : AV} {r : Bool} (he : aEq E t x y = some r) : (∀ k n, x ≠ .int k n) ∧ (∀ s, x ≠ .str s) ∧ x ≠ .bad := by
  unfold aEq at he
  split at he
  case h_2 => cases he
  refine ⟨fun k n hx => ?_, fun s hx => ?_, fun hx => ?_⟩ <;> subst hx <;> (split at he <;> contradiction)

theorem aBin_sound (ok : EnvT P E) {op : BinOp} {t : TypeId} {x y z : AV} {a b : Value} (ha : VR σ x a) (hb : VR σ y b) (he : aBin E op t x y = some z) (ox oy : Operand) :
    ∃ v, (do eqGuard op t ox oy a b; binOp op t a b : Sem Value).run P w = .ok v w ∧ VR σ z v := by
  unfold aBin at he
  split at he
  · rename_i k n k' n'
    simp only [VR] at ha hb; subst ha; subst hb
    simp only [eqGuard_at_int]
    split at he
    · obtain ⟨v, hv, hr⟩ := aShift_sound (P := P) (σ := σ) (w := w) (k' := k') he t
      exact ⟨v, by simpa using hv, hr⟩
    · obtain ⟨v, hv, hr⟩ := aShift_sound (P := P) (σ := σ) (w := w) (k' := k') he t
      exact ⟨v, by simpa using hv, hr⟩
    · split at he
      · rename_i hk; subst hk
        obtain ⟨v, hv, hr⟩ := aInt_sound (P := P) (σ := σ) (w := w) he t
        exact ⟨v, by simpa using hv, hr⟩
      · cases he
  · rename_i s s'
    simp only [VR] at ha hb; subst ha; subst hb
    obtain ⟨v, hv, hr⟩ := aStr_sound (P := P) (σ := σ) (w := w) he t
    exact ⟨v, by simpa [eqGuard_at_string] using hv, hr⟩
  · split at he
    · split at he
      · rename_i r hr
        cases he
        obtain ⟨p1, p2, p3⟩ := aEq_plain hr
        obtain ⟨q1, q2, q3, q4⟩ := VR.plain ha p1 p2 p3
        obtain ⟨h1, h2⟩ := aEq_sound (P := P) (w := w) ok ha hb hr ox oy .eql
        rw [binOp_eql_gen t a b q1 q2 q3 q4]
        exact ⟨.bool r, by simp only [Sem.run_bind, h1, Result.andThen_ok, h2, Sem.run_pure], by simp only [VR]⟩
      · cases he
    · split at he
      · rename_i r hr
        cases he
        obtain ⟨p1, p2, p3⟩ := aEq_plain hr
        obtain ⟨q1, q2, q3, q4⟩ := VR.plain ha p1 p2 p3
        obtain ⟨h1, h2⟩ := aEq_sound (P := P) (w := w) ok ha hb hr ox oy .neq
        rw [binOp_neq_gen t a b q1 q2 q3 q4]
        exact ⟨.bool !r, by simp only [Sem.run_bind, h1, Result.andThen_ok, h2, Sem.run_pure], by simp only [VR]⟩
      · cases he
    · cases he

theorem aUn_sound {op : UnOp} {x z : AV} {a : Value} (ha : VR σ x a) (he : aUn op x = some z) :
    ∃ v, (Op.unary op a).run P w = .ok v w ∧ VR σ z v := by
  unfold aUn at he
  split at he
  · simp only [VR] at ha; subst ha; simp only [mkI_eq, Option.some.injEq] at he; subst he
    exact ⟨_, by simp [Op.unary, Op.intArith]; rfl, by simp only [VR]; simp⟩
  · simp only [VR] at ha; subst ha; simp only [mkI_eq, Option.some.injEq] at he; subst he
    exact ⟨_, by simp only [Op.unary, intBits_xor, Sem.run_pure]; rfl, by simp only [VR]; rfl⟩
  · simp only [VR] at ha; subst ha; cases he
    exact ⟨_, rfl, by simp only [VR]⟩
  · cases he
end
end Go.Proofs.Yteblojfcalgoeaa

/- The abstract machine: the reading operations as one function, and that it is sound. Conditions: none. -/
namespace Go.Proofs.Yteblojfcalgoeaa
open Go Go.RowKit

def asN (v : AV) : Option Nat :=
  match v with
  | .int _ n => bif decide (0 ≤ n) then some n.toNat else none
  | _ => none

def aIndexAt (E : Env) (t : TypeId) (x ix : AV) : Option AV :=
  match E.ty t, asN ix with
  | some ti, some k =>
    match ti.und, x with
    | .slice e, .sl i o n _ _ => match E.ty e with
      | some ei => bif Nat.blt k n then some (.ptr i (o + k * ei.size)) else none
      | none => none
    | .array n e, .ptr i o => match E.ty e with
      | some ei => bif Nat.blt k n then some (.ptr i (o + k * ei.size)) else none
      | none => none
    | _, _ => none
  | _, _ => none

def aPart (E : Env) (t : TypeId) (cs : List AV) (off : Nat) : Option AV :=
  match E.ty t with
  | some ti => bif aggOf ti.und then some (.agg ((cs.drop off).take ti.size)) else cs[off]?
  | none => none

def aIndex (E : Env) (t : TypeId) (x ix : AV) : Option AV :=
  match E.ty t, asN ix with
  | some ti, some k =>
    match ti.und, x with
    | .string, .str s => match s[k]? with
      | some b => mkI .u8 b.toNat
      | none => none
    | .array n e, .agg cs => match E.ty e with
      | some ei => bif Nat.blt k n then aPart E e cs (k * ei.size) else none
      | none => none
    | _, _ => none
  | _, _ => none

def aFieldAt (E : Env) (t : TypeId) (x : AV) (f : Nat) : Option AV :=
  match E.ty t, x with
  | some ti, .ptr i o =>
    match ti.und with
    | .struct fs => match fs.toList[f]? with
      | some fd => match E.ty fd.type with
        | some fi => bif Nat.beq fi.size 0 then none else some (.ptr i (o + fd.offset))
        | none => none
      | none => none
    | _ => none
  | _, _ => none

def aField (E : Env) (t : TypeId) (x : AV) (f : Nat) : Option AV :=
  match E.ty t, x with
  | some ti, .agg cs =>
    match ti.und with
    | .struct fs => match fs.toList[f]? with
      | some fd => aPart E fd.type cs fd.offset
      | none => none
    | _ => none
  | _, _ => none

/-- The three bounds of a slice expression: low, high, max ('none': the capacity is not known, and not asked for). -/
def aBnd (x : Option AV) (d : Nat) (top : Nat) : Option Nat :=
  match x with
  | none => some d
  | some v => match asN v with
    | some k => bif Nat.ble k top then some k else none
    | none => none

def aSlice (E : Env) (t : TypeId) (x : AV) (lo hi mx : Option AV) : Option AV :=
  match E.ty t with
  | some ti =>
    match ti.und, x with
    | .string, .str s =>
      match mx with
      | some _ => none
      | none => match aBnd hi s.length s.length with
        | some h => match aBnd lo 0 h with
          | some l => some (.str ((s.drop l).take (h - l)))
          | none => none
        | none => none
    | .slice e, .sl i o n c false =>
      match E.ty e, aBnd mx c c with
      | some ei, some m => match mx, hi with
        | some _, none => none
        | _, _ => match aBnd hi n m with
          | some h => match aBnd lo 0 h with
            | some l => some (.sl i (bif Nat.beq m l then o else o + l * ei.size) (h - l) (m - l) false)
            | none => none
          | none => none
      | _, _ => none
    | .slice e, .sl i o n _ true =>
      match E.ty e with
      | some ei =>
        match mx, hi with
        | some _, none => none
        | some _, some _ => match aBnd mx n n with
          | some m => match aBnd hi n m with
            | some h => match aBnd lo 0 h with
              | some l => some (.sl i (bif Nat.beq m l then o else o + l * ei.size) (h - l) (m - l) false)
              | none => none
            | none => none
          | none => none
        | none, _ => match aBnd hi n n with
          | some h => match aBnd lo 0 h with
            | some l =>
              bif Nat.beq l 0 then some (.sl i o h 0 true)
              else bif Nat.beq l n then some .emp
              else bif Nat.beq ei.size 0 then none
              else some (.sl i (o + l * ei.size) (h - l) 0 true)
            | none => none
          | none => none
      | none => none
    | .slice e, .nils =>
      match mx, E.ty e with
      | none, some _ => match aBnd hi 0 0 with
        | some h => match aBnd lo 0 h with
          | some _ => some .nils
          | none => none
        | none => none
      | some z, some _ => match hi with
        | some y => match aBnd (some z) 0 0 with
          | some m => match aBnd (some y) 0 m with
            | some h => match aBnd lo 0 h with
              | some _ => some .nils
              | none => none
            | none => none
          | none => none
        | none => none
      | _, _ => none
    | .slice e, .emp =>
      match mx, E.ty e with
      | none, some _ => match aBnd hi 0 0 with
        | some h => match aBnd lo 0 h with
          | some _ => some .emp
          | none => none
        | none => none
      | _, _ => none
    | .array n e, .ptr i o =>
      match E.ty e, aBnd mx n n with
      | some ei, some m => match mx, hi with
        | some _, none => none
        | _, _ => match aBnd hi n m with
          | some h => match aBnd lo 0 h with
            | some l => some (.sl i (bif Nat.beq m l then o else o + l * ei.size) (h - l) (m - l) false)
            | none => none
          | none => none
      | _, _ => none
    | _, _ => none
  | none => none

def aConvQ (E : Env) (h : AH) (s d : TypeId) (x : AV) : Option AV :=
  match E.ty s, E.ty d with
  | some si, some di =>
    match di.und, x with
    | .int k, .int _ n => mkI k (k.wrap n)
    | .string, .str s => some (.str s)
    | .string, x =>
      match si.und with
      | .slice e => match E.ty e with
        | some ei => match ei.und with
          | .int .u8 =>
            match x with
            | .nils => some (.str [])
            | .emp => some (.str [])
            | .sl i o n _ _ => match h.get i with
              | .cells cs _ _ => bif Nat.ble (o + n) cs.length then (match bytesOf ((cs.drop o).take n) with | some l => some (.str l) | none => none) else none
              | _ => none
            | _ => none
          | _ => none
        | none => none
      | _ => none
    | _, _ => none
  | _, _ => none

def aLen (E : Env) (t : TypeId) (h : AH) (x : AV) : Option AV :=
  match E.ty t with
  | some ti =>
    match ti.und, x with
    | .string, .str s => some (.int .i64 s.length)
    | .array n _, _ => some (.int .i64 n)
    | .slice _, .sl _ _ n _ _ => some (.int .i64 n)
    | .slice _, .emp => some (.int .i64 0)
    | .slice _, .nils => some (.int .i64 0)
    | .map _ _, .nilm => some (.int .i64 0)
    | .map _ _, .map i => match h.get i with
      | .map es => some (.int .i64 es.length)
      | _ => none
    | _, _ => none
  | none => none

def aMin (mx : Bool) : AV → AV → Option AV
  | .int k a, .int _ b => bif mx then some (.int k (if b > a then b else a)) else some (.int k (if b < a then b else a))
  | _, _ => none

def aMinL (mx : Bool) : AV → List AV → Option AV
  | v, [] => some v
  | v, x :: r => match aMin mx v x with
    | some y => aMinL mx y r
    | none => none

def findK (k : List UInt8) : List (List UInt8 × AV) → Option AV
  | [] => none
  | (k', v) :: r => bif k == k' then some v else findK k r

def aLookup (E : Env) (t : TypeId) (h : AH) (x k : AV) (ok : Bool) : Option AV :=
  match E.ty t with
  | some ti =>
    match ti.und with
    | .map kt et => match E.ty kt, E.ty et, k with
      | some ki, some ei, .str s =>
        match ki.und with
        | .string =>
          let es : Option (List (List UInt8 × AV)) := match x with
            | .nilm => some []
            | .map i => match h.get i with
              | .map es => some es
              | _ => none
            | _ => none
          match es with
          | some es =>
            let r := findK s es
            let v := match r with | some v => v | none => ei.zero
            bif ok then some (.tup [v, .bool r.isSome]) else some v
          | none => none
        | _ => none
      | _, _, _ => none
    | _ => none
  | none => none

def aAssert (E : Env) (t : TypeId) (x : AV) : Option AV :=
  match E.ty t with
  | some ti =>
    match ti.und, x with
    | .interface _, _ => none
    | _, .nili => some (.tup [ti.zero, .bool false])
    | _, .iface u v => if u = t then some (.tup [v, .bool true]) else some (.tup [ti.zero, .bool false])
    | _, _ => none
  | none => none

def qBuiltin (E : Env) (h : AH) (b : Builtin) (vs : List AV) (ts : List TypeId) : Option AV :=
  match b, vs, ts with
  | .len, [x], [t] => aLen E t h x
  | .min, x :: r, _ => aMinL false x r
  | .max, x :: r, _ => aMinL true x r
  | _, _, _ => none

theorem map_one {α β : Type} {f : α → β} {l : List α} {v : β} (h : l.map f = [v]) : ∃ x, l = [x] ∧ f x = v := by
  match l, h with
  | [x], h => exact ⟨x, rfl, by simpa using h⟩
theorem map_two {α β : Type} {f : α → β} {l : List α} {v u : β} (h : l.map f = [v, u]) : ∃ x y, l = [x, y] ∧ f x = v ∧ f y = u := by
  match l, h with
  | [x, y], h => exact ⟨x, y, rfl, by simpa using h⟩
theorem map_cons {α β : Type} {f : α → β} {l : List α} {v : β} {u : List β} (h : l.map f = v :: u) : ∃ x r, l = x :: r ∧ f x = v ∧ r.map f = u := by
  match l, h with
  | x :: r, h => exact ⟨x, r, rfl, by simpa using h⟩

def qOp (E : Env) (fr : Nat → AV) (h : AH) (op : Op) : Option AV :=
  match op with
  | .move x => some (ev fr x)
  | .assign x => some (ev fr x)
  | .pick c a b => match ev fr c with
    | .bool t => some (bif t then ev fr a else ev fr b)
    | _ => none
  | .load t x => aLoad E h t (ev fr x)
  | .nilCheck x => match ev fr x with
    | .ptr i o => some (.ptr i o)
    | .iface t v => some (.iface t v)
    | .fn (.func f) a b => some (.fn (.func f) a b)
    | _ => none
  | .binOp op t x y _ => aBin E op t (ev fr x) (ev fr y)
  | .unOp op _ x => aUn op (ev fr x)
  | .convert s d x => aConvQ E h s d (ev fr x)
  | .sliceToArrayPointer t x => match E.ty t, ev fr x with
    | some ti, .sl i o n _ _ => match ti.und with
      | .array m _ => bif Nat.ble m n then some (.ptr i o) else none
      | _ => none
    | _, _ => none
  | .makeInterface t x => match E.ty t with
    | some ti => match ti.und with
      | .interface _ => none
      | _ => some (.iface t (ev fr x))
    | none => none
  | .makeFunc f first cap => some (.fn f (first.toList.map (ev fr)) (cap.toList.map (ev fr)))
  | .slice t x lo hi mx => aSlice E t (ev fr x) (lo.map (ev fr)) (hi.map (ev fr)) (mx.map (ev fr))
  | .fieldAddr t x f => aFieldAt E t (ev fr x) f
  | .field t x f => aField E t (ev fr x) f
  | .indexAddr t x ix => aIndexAt E t (ev fr x) (ev fr ix)
  | .index t x ix => aIndex E t (ev fr x) (ev fr ix)
  | .lookup t x k ok => aLookup E t h (ev fr x) (ev fr k) ok
  | .typeAssert x _ t ok => bif ok then aAssert E t (ev fr x) else none
  | .extract x i => match ev fr x with
    | .tup vs => vs[i]?
    | _ => none
  | .call c => match c.callee with
    | .builtin b => qBuiltin E h b (c.args.toList.map (ev fr)) c.argTypes.toList
    | _ => none
  | _ => none
end Go.Proofs.Yteblojfcalgoeaa

/- The abstract machine: the reading operations are sound. Conditions: none. -/
namespace Go.Proofs.Yteblojfcalgoeaa
open Go Go.RowKit

section
variable {P : Program} {E : Env} {σ : Sig} {B : Nat} {W0 : World} {h : AH} {w : World} {size : TypeId → Option Nat}

theorem asN_sound {x : AV} {v : Value} (hv : VR σ x v) {n : Nat} (he : asN x = some n) : ∃ k, v = .int k (n : Int) := by
  unfold asN at he
  split at he
  · rename_i k m
    simp only [VR] at hv
    rw [cond_eq_ite] at he
    split at he
    · rename_i hm
      cases he
      exact ⟨k, by rw [hv, Int.toNat_of_nonneg (by simpa using hm)]⟩
    · cases he
  · cases he

theorem blt_lt {a b : Nat} (h : Nat.blt a b = true) : a < b := Nat.lt_of_succ_le (Nat.le_of_ble_eq_true h)

theorem run_indexAt_sl {t e : TypeId} {s : Nat} (ht : (underlying t).run P w = .ok (.slice e) w) (hs : (sizeOf e).run P w = .ok s w) {a : Addr} {n c k : Nat} {kd : IntKind} (hk : k < n) :
    (Instr.indexAt t (.slice (some a) n c) (.int kd (k : Int))).run P w = .ok (.pointer (some (a.add (k * s)))) w := by
  simp [Instr.indexAt, asIntOf, ht, hs, hk]

theorem run_indexAt_arr {t e : TypeId} {s n : Nat} (ht : (underlying t).run P w = .ok (.array n e) w) (hs : (sizeOf e).run P w = .ok s w) {a : Addr} {k : Nat} {kd : IntKind} (hk : k < n) :
    (Instr.indexAt t (.pointer (some a)) (.int kd (k : Int))).run P w = .ok (.pointer (some (a.add (k * s)))) w := by
  simp [Instr.indexAt, asIntOf, ht, hs, hk, Instr.sureAddr]

theorem aIndexAt_sound (ok : EnvT P E) {t : TypeId} {x ix y : AV} {a b : Value} (ha : VR σ x a) (hb : VR σ ix b) (he : aIndexAt E t x ix = some y) :
    ∃ v, (Instr.indexAt t a b).run P w = .ok v w ∧ VR σ y v := by
  unfold aIndexAt at he
  split at he
  · rename_i ti k ht hk
    obtain ⟨kd, rfl⟩ := asN_sound hb hk
    have hu := ok.und ht w
    split at he
    · rename_i e i o n c l hd
      rw [hd] at hu
      split at he
      · rename_i ei hte
        have hs := ok.sizeOf hte w
        rw [cond_eq_ite] at he
        split at he
        · rename_i hlt
          cases he
          obtain ⟨hi, c', rfl, _⟩ := VR.sl_inv ha
          exact ⟨_, run_indexAt_sl hu hs (blt_lt hlt), by simp only [VR]; exact ⟨hi, by rw [addr_add]⟩⟩
        · cases he
      · cases he
    · rename_i n e i o hd
      rw [hd] at hu
      split at he
      · rename_i ei hte
        have hs := ok.sizeOf hte w
        rw [cond_eq_ite] at he
        split at he
        · rename_i hlt
          cases he
          simp only [VR] at ha
          obtain ⟨hi, rfl⟩ := ha
          exact ⟨_, run_indexAt_arr hu hs (blt_lt hlt), by simp only [VR]; exact ⟨hi, by rw [addr_add]⟩⟩
        · cases he
      · cases he
    · cases he
  · cases he

theorem run_isAgg (ok : EnvT P E) {t : TypeId} {ti : TI} (ht : E.ty t = some ti) : (isAgg t).run P w = .ok (aggOf ti.und) w := by
  simp only [isAgg, Sem.run_bind, ok.und ht w, Result.andThen_ok]
  cases ti.und <;> rfl

theorem aPart_sound (ok : EnvT P E) {t : TypeId} {cs : List AV} {vs : Array Value} (hc : VRL σ cs vs.toList) {off : Nat} {y : AV} (he : aPart E t cs off = some y) :
    ∃ v, (part t vs off).run P w = .ok v w ∧ VR σ y v := by
  unfold aPart at he
  split at he
  · rename_i ti ht
    have hs := ok.sizeOf ht w
    have hg := run_isAgg (w := w) ok ht
    rw [cond_eq_ite] at he
    split at he
    · rename_i ha
      cases he
      refine ⟨.agg (vs.extract off (off + ti.size)), by simp [part, hg, ha, hs], ?_⟩
      simp only [VR]
      refine ⟨_, rfl, VRL.of_get ?_ fun k x z hx hz => ?_⟩
      · have := hc.length; simp at this; simp; omega
      · have hk : k < ti.size := by
          have := (List.getElem?_eq_some_iff.1 hx).1
          simp at this; omega
        rw [List.getElem?_take, if_pos hk, List.getElem?_drop] at hx
        obtain ⟨u, hu, hr⟩ := hc.get hx
        have : vs.toList[off + k]? = some z := by
          rw [← hz]
          simp only [Array.toList_extract, List.extract_eq_take_drop]
          rw [List.getElem?_take, if_pos (by omega), List.getElem?_drop]
        rw [this] at hu; cases hu; exact hr
    · rename_i ha
      obtain ⟨u, hu, hr⟩ := hc.get he
      have ha' : aggOf ti.und = false := by simpa using ha
      have hu' : vs[off]? = some u := by rw [← Array.getElem?_toList]; exact hu
      exact ⟨u, by simp [part, hg, ha', hu'], hr⟩
  · cases he

theorem aIndex_sound (ok : EnvT P E) {t : TypeId} {x ix y : AV} {a b : Value} (ha : VR σ x a) (hb : VR σ ix b) (he : aIndex E t x ix = some y) :
    ∃ v, (Instr.index t a b).run P w = .ok v w ∧ VR σ y v := by
  unfold aIndex at he
  split at he
  · rename_i ti k ht hk
    obtain ⟨kd, rfl⟩ := asN_sound hb hk
    have hu := ok.und ht w
    split at he
    · rename_i s hd
      rw [hd] at hu
      split at he
      · rename_i c hc
        simp only [mkI_eq, Option.some.injEq] at he; subst he
        simp only [VR] at ha; subst ha
        have hlt := (List.getElem?_eq_some_iff.1 hc).1
        have h2 := (List.getElem?_eq_some_iff.1 hc).2
        have hg : (ByteArray.mk s.toArray)[k]? = some c := by
          have hl : k < (ByteArray.mk s.toArray).size := by simpa [ByteArray.size] using hlt
          rw [getElem?_pos (ByteArray.mk s.toArray) k hl]
          exact congrArg some h2
        exact ⟨.int .u8 c.toNat, by simp [Instr.index, asIntOf, hu, hg], by simp only [VR]⟩
      · cases he
    · rename_i n e cs hd
      rw [hd] at hu
      split at he
      · rename_i ei hte
        have hs := ok.sizeOf hte w
        rw [cond_eq_ite] at he
        split at he
        · rename_i hlt
          simp only [VR] at ha
          obtain ⟨vs, rfl, hc⟩ := ha
          obtain ⟨v, hv, hr⟩ := aPart_sound (P := P) (w := w) ok hc he
          exact ⟨v, by simp [Instr.index, asIntOf, hu, hs, blt_lt hlt, hv], hr⟩
        · cases he
      · cases he
    · cases he
  · cases he

theorem aFieldAt_sound (ok : EnvT P E) {t : TypeId} {x y : AV} {f : Nat} {a : Value} (ha : VR σ x a) (he : aFieldAt E t x f = some y) :
    ∃ v, (Instr.fieldAt t a f).run P w = .ok v w ∧ VR σ y v := by
  unfold aFieldAt at he
  split at he
  · rename_i ti i o ht
    have hu := ok.und ht w
    split at he
    · rename_i fs hd
      rw [hd] at hu
      split at he
      · rename_i fd hf
        split at he
        · rename_i fi hfi
          have hs := ok.sizeOf hfi w
          rw [cond_eq_ite] at he
          split at he
          · cases he
          · rename_i hz
            cases he
            simp only [VR] at ha
            obtain ⟨hi, rfl⟩ := ha
            have hf' : fs[f]? = some fd := by rw [← Array.getElem?_toList]; exact hf
            have hz' : fi.size ≠ 0 := fun e => hz (by rw [e]; rfl)
            refine ⟨.pointer (some (σ.addr i (o + fd.offset))), ?_, by simp only [VR]; exact ⟨hi, trivial⟩⟩
            simp [Instr.fieldAt, hu, hf', Instr.sureAddr, fieldPlace, hs, hz', addr_add]
        · cases he
      · cases he
    · cases he
  · cases he

theorem aField_sound (ok : EnvT P E) {t : TypeId} {x y : AV} {f : Nat} {a : Value} (ha : VR σ x a) (he : aField E t x f = some y) :
    ∃ v, (Instr.field t a f).run P w = .ok v w ∧ VR σ y v := by
  unfold aField at he
  split at he
  · rename_i ti cs ht
    have hu := ok.und ht w
    split at he
    · rename_i fs hd
      rw [hd] at hu
      split at he
      · rename_i fd hf
        have hf' : fs[f]? = some fd := by rw [← Array.getElem?_toList]; exact hf
        simp only [VR] at ha
        obtain ⟨vs, rfl, hc⟩ := ha
        obtain ⟨v, hv, hr⟩ := aPart_sound (P := P) (w := w) ok hc he
        exact ⟨v, by simp [Instr.field, hu, hf', asAgg, hv], hr⟩
      · cases he
    · cases he
  · cases he

/-- A bound as the model has it. -/
theorem aBnd_some {x : AV} {v : Value} (hv : VR σ x v) {d top n : Nat} (he : aBnd (some x) d top = some n) : n ≤ top ∧ ∃ k, v = .int k (n : Int) := by
  simp only [aBnd] at he
  split at he
  · rename_i k hk
    rw [cond_eq_ite] at he
    split at he
    · rename_i hb
      cases he
      exact ⟨Nat.le_of_ble_eq_true hb, asN_sound hv hk⟩
    · cases he
  · cases he

theorem run_sliceBound {k : IntKind} {n top : Nat} (hn : n ≤ top) (code : BoundsCode) : (Instr.sliceBound (.int k (n : Int)) top code).run P w = .ok n w := by
  simp [Instr.sliceBound, asIntOf, hn]

/-- An operand that may be absent. -/
def VRO (σ : Sig) : Option AV → Option Value → Prop
  | none, none => True
  | some x, some v => VR σ x v
  | _, _ => False

theorem run_bounds {isS : Bool} {n c : Nat} {lo hi mx : Option AV} {vl vh vm : Option Value} (hl : VRO σ lo vl) (hh : VRO σ hi vh) (hm : VRO σ mx vm)
    {l hh' m : Nat} (e1 : aBnd mx c c = some m) (e2 : aBnd hi n m = some hh') (e3 : aBnd lo 0 hh' = some l) (hx : mx.isSome = true → hi.isSome = true) :
    (Instr.sliceBounds isS n c vl vh vm).run P w = .ok (l, hh', m) w ∧ (hi.isSome = true → hh' ≤ m) ∧ (hi = none → hh' = n) ∧ l ≤ hh' ∧ m ≤ c ∧ (mx = none → m = c) := by
  have a1 : (mx = none → m = c) ∧ m ≤ c := by
    cases mx with
    | none => simp [aBnd] at e1; exact ⟨fun _ => e1.symm, by omega⟩
    | some x => cases vm with
      | none => exact hm.elim
      | some v => exact ⟨by simp, (aBnd_some hm e1).1⟩
  have a2 : (hi.isSome = true → hh' ≤ m) ∧ (hi = none → hh' = n) := by
    cases hi with
    | none => simp [aBnd] at e2; exact ⟨by simp, fun _ => e2.symm⟩
    | some x => cases vh with
      | none => exact hh.elim
      | some v => exact ⟨fun _ => (aBnd_some hh e2).1, by simp⟩
  have a3 : l ≤ hh' := by
    cases lo with
    | none => simp [aBnd] at e3; omega
    | some x => cases vl with
      | none => exact hl.elim
      | some v => exact (aBnd_some hl e3).1
  refine ⟨?_, a2.1, a2.2, a3, a1.2, a1.1⟩
  cases mx with
  | none =>
    cases vm with
    | some v => exact hm.elim
    | none =>
      simp [aBnd] at e1; subst e1
      cases hi with
      | none =>
        cases vh with
        | some v => exact hh.elim
        | none =>
          simp [aBnd] at e2; subst e2
          cases lo with
          | none => cases vl with
            | some v => exact hl.elim
            | none => simp [aBnd] at e3; subst e3; simp [Instr.sliceBounds]
          | some x => cases vl with
            | none => exact hl.elim
            | some v =>
              obtain ⟨h1, k, rfl⟩ := aBnd_some hl e3
              simp [Instr.sliceBounds, run_sliceBound h1]
      | some y =>
        cases vh with
        | none => exact hh.elim
        | some u =>
          obtain ⟨h2, k2, rfl⟩ := aBnd_some hh e2
          cases lo with
          | none => cases vl with
            | some v => exact hl.elim
            | none => simp [aBnd] at e3; subst e3; simp [Instr.sliceBounds, run_sliceBound h2]
          | some x => cases vl with
            | none => exact hl.elim
            | some v =>
              obtain ⟨h1, k, rfl⟩ := aBnd_some hl e3
              simp [Instr.sliceBounds, run_sliceBound h1, run_sliceBound h2]
  | some z =>
    cases vm with
    | none => exact hm.elim
    | some q =>
      obtain ⟨h3, k3, rfl⟩ := aBnd_some hm e1
      cases hi with
      | none => simp at hx
      | some y =>
        cases vh with
        | none => exact hh.elim
        | some u =>
          obtain ⟨h2, k2, rfl⟩ := aBnd_some hh e2
          cases lo with
          | none => cases vl with
            | some v => exact hl.elim
            | none => simp [aBnd] at e3; subst e3; simp [Instr.sliceBounds, run_sliceBound h2, run_sliceBound h3]
          | some x => cases vl with
            | none => exact hl.elim
            | some v =>
              obtain ⟨h1, k, rfl⟩ := aBnd_some hl e3
              simp [Instr.sliceBounds, run_sliceBound h1, run_sliceBound h2, run_sliceBound h3]
end
end Go.Proofs.Yteblojfcalgoeaa

/- The abstract machine: slicing, conversions, lookups; all reading operations are sound. Conditions: none. -/
namespace Go.Proofs.Yteblojfcalgoeaa
open Go Go.RowKit

section
variable {P : Program} {E : Env} {σ : Sig} {B : Nat} {W0 : World} {h : AH} {w : World} {size : TypeId → Option Nat}

theorem beqF {a b : Nat} (h : a ≠ b) : Nat.beq a b = false := by
  cases hb : Nat.beq a b
  · rfl
  · exact absurd (Nat.eq_of_beq_eq_true hb) h

theorem run_slice_str {t : TypeId} (ht : (underlying t).run P w = .ok .string w) {s : ByteArray} {vl vh : Option Value} {l hh m : Nat}
    (hb : (Instr.sliceBounds false s.size s.size vl vh none).run P w = .ok (l, hh, m) w) : (Instr.sliceAt t (.string s) vl vh none).run P w = .ok (.string (s.extract l hh)) w := by
  simp [Instr.sliceAt, Instr.slice, ht, hb]

theorem run_slice_sl {t e : TypeId} {sz : Nat} (ht : (underlying t).run P w = .ok (.slice e) w) (hs : (sizeOf e).run P w = .ok sz w) {a : Option Addr} {n c : Nat} {vl vh vm : Option Value} {l hh m : Nat}
    (hb : (Instr.sliceBounds true n c vl vh vm).run P w = .ok (l, hh, m) w) :
    (Instr.sliceAt t (.slice a n c) vl vh vm).run P w = .ok (.slice (if m = l then a else a.map (·.add (l * sz))) (hh - l) (m - l)) w := by
  simp [Instr.sliceAt, Instr.slice, ht, hb, hs]

theorem run_slice_arr {t e : TypeId} {sz n : Nat} (ht : (underlying t).run P w = .ok (.array n e) w) (hs : (sizeOf e).run P w = .ok sz w) {a : Addr} {vl vh vm : Option Value} {l hh m : Nat}
    (hb : (Instr.sliceBounds false n n vl vh vm).run P w = .ok (l, hh, m) w) :
    (Instr.sliceAt t (.pointer (some a)) vl vh vm).run P w = .ok (.slice (some (if m = l then a else a.add (l * sz))) (hh - l) (m - l)) w := by
  simp [Instr.sliceAt, ht, hb, hs, Instr.sureAddr]

theorem extract_str (s : List UInt8) (l k : Nat) : (ByteArray.mk s.toArray).extract l k = ⟨((s.drop l).take (k - l)).toArray⟩ := by
  apply ByteArray.ext
  simp [ByteArray.data_extract, List.extract_eq_take_drop]

theorem aSlice_sound (ok : EnvT P E) {t : TypeId} {x y : AV} {a : Value} {lo hi mx : Option AV} {vl vh vm : Option Value} (ha : VR σ x a) (hl : VRO σ lo vl) (hh : VRO σ hi vh) (hm : VRO σ mx vm)
    (he : aSlice E t x lo hi mx = some y) : ∃ v, (Instr.sliceAt t a vl vh vm).run P w = .ok v w ∧ VR σ y v := by
  unfold aSlice at he
  split at he
  case h_2 => cases he
  rename_i ti ht
  have hu := ok.und ht w
  split at he
  · -- text
    rename_i s hd
    rw [hd] at hu
    simp only [VR] at ha; subst ha
    split at he
    · cases he
    · split at he
      · rename_i h1 e1
        split at he
        · rename_i l1 e2
          cases he
          have hs : (ByteArray.mk s.toArray).size = s.length := by simp [ByteArray.size]
          have hvm : vm = none := by cases vm with | none => rfl | some v => exact hm.elim
          subst hvm
          obtain ⟨hb, _⟩ := run_bounds (P := P) (w := w) (isS := false) (mx := none) (vm := none) hl hh trivial (c := s.length) (m := s.length) rfl e1 e2 (by simp)
          refine ⟨_, run_slice_str hu (by rw [hs]; exact hb), ?_⟩
          simp only [VR]
          rw [extract_str]
        · cases he
      · cases he
  · -- rigid slice
    rename_i e i o n c hd
    rw [hd] at hu
    obtain ⟨hi0, c', rfl, hnc, hc', _⟩ := VR.sl_inv ha
    have := hc' rfl; subst this
    split at he
    · rename_i ei m hte em
      have hs := ok.sizeOf hte w
      split at he
      · cases he
      · rename_i hx
        split at he
        · rename_i h1 e1
          split at he
          · rename_i l1 e2
            cases he
            obtain ⟨hb, b1, b2, b3, b4, b5⟩ := run_bounds (P := P) (w := w) (isS := true) hl hh hm em e1 e2 (fun hs => by
              cases mx with
              | none => simp at hs
              | some z => cases hi with
                | none => exact absurd rfl (hx z rfl)
                | some y => rfl)
            refine ⟨_, run_slice_sl hu hs hb, ?_⟩
            simp only [VR, Bool.false_eq_true, if_false]
            refine ⟨hi0, ?_, ?_⟩
            · congr 1
              by_cases hml : m = l1
              · subst hml; simp
              · rw [if_neg hml]
                have : Nat.beq m l1 = false := beqF hml
                rw [this]; simp [addr_add]
            · have : h1 ≤ m := by
                cases hi with
                | none =>
                  have := b2 rfl
                  cases mx with
                  | none => have := b5 rfl; omega
                  | some z => exact absurd rfl (hx z rfl)
                | some y => exact b1 rfl
              omega
          · cases he
        · cases he
    · cases he
  · -- loose slice
    rename_i e i o n cx hd
    rw [hd] at hu
    obtain ⟨hi0, c', rfl, hnc, _, hc0⟩ := VR.sl_inv ha
    split at he
    · rename_i ei hte
      have hs := ok.sizeOf hte w
      split at he
      · cases he
      · rename_i z yv
        split at he
        · rename_i m em
          split at he
          · rename_i h1 e1
            split at he
            · rename_i l1 e2
              cases he
              have em' : aBnd (some z) c' c' = some m := by
                simp only [aBnd] at em ⊢
                split at em
                · rename_i k hk
                  rw [cond_eq_ite] at em ⊢
                  split at em
                  · rename_i hb
                    have := Nat.le_of_ble_eq_true hb
                    cases em
                    rw [if_pos (Nat.ble_eq_true_of_le (by omega))]
                  · cases em
                · cases em
              have hmn : m ≤ n := by
                cases vm with
                | none => exact hm.elim
                | some v => exact (aBnd_some hm em).1
              obtain ⟨hb, b1, b2, b3, b4, b5⟩ := run_bounds (P := P) (w := w) (isS := true) hl hh hm em' (by simpa [aBnd] using e1) e2 (fun _ => rfl)
              refine ⟨_, run_slice_sl hu hs hb, ?_⟩
              simp only [VR, Bool.false_eq_true, if_false]
              refine ⟨hi0, ?_, ?_⟩
              · congr 1
                by_cases hml : m = l1
                · subst hml; simp
                · rw [if_neg hml]
                  have : Nat.beq m l1 = false := beqF hml
                  rw [this]; simp [addr_add]
              · have := b1 rfl
                omega
            · cases he
          · cases he
        · cases he
      · rename_i hx
        split at he
        · rename_i h1 e1
          split at he
          · rename_i l1 e2
            have hvm : vm = none := by cases vm with | none => rfl | some v => exact hm.elim
            subst hvm
            have hn1 : h1 ≤ n := by
              cases hi with
              | none => simp [aBnd] at e1; omega
              | some z => cases vh with
                | none => exact hh.elim
                | some v => exact (aBnd_some hh e1).1
            have e1' : aBnd hi n c' = some h1 := by
              cases hi with
              | none => simpa [aBnd] using e1
              | some z =>
                simp only [aBnd] at e1 ⊢
                split at e1
                · rw [cond_eq_ite] at e1 ⊢
                  split at e1
                  · rename_i hb
                    have := Nat.le_of_ble_eq_true hb
                    cases e1
                    rw [if_pos (Nat.ble_eq_true_of_le (by omega))]
                  · cases e1
                · cases e1
            obtain ⟨hb, b1, b2, b3, b4, b5⟩ := run_bounds (P := P) (w := w) (isS := true) (mx := none) (vm := none) hl hh trivial (c := c') (m := c') rfl e1' e2 (by simp)
            have hrun := run_slice_sl (a := some (σ.addr i o)) hu hs hb
            rw [cond_eq_ite] at he
            split at he
            · rename_i hl0
              have := Nat.eq_of_beq_eq_true hl0; subst this
              cases he
              refine ⟨_, hrun, ?_⟩
              simp only [VR, if_true]
              refine ⟨hi0, c', ?_, by omega, hc0 rfl⟩
              have : (if c' = 0 then some (σ.addr i o) else Option.map (·.add (0 * ei.size)) (some (σ.addr i o))) = some (σ.addr i o) := by
                split
                · rfl
                · simp [addr_add]
              rw [this]
              simp
            · rename_i hl0
              have hl1 : l1 ≠ 0 := fun e => hl0 (by rw [e]; rfl)
              rw [cond_eq_ite] at he
              split at he
              · rename_i hln
                have := Nat.eq_of_beq_eq_true hln; subst this
                cases he
                refine ⟨_, hrun, ?_⟩
                simp only [VR]
                have : h1 - l1 = 0 := by omega
                rw [this]
                split
                · exact ⟨_, _, rfl⟩
                · exact ⟨_, _, rfl⟩
              · rename_i hln
                have hln' : l1 ≠ n := fun e => hln (by rw [e]; simp)
                rw [cond_eq_ite] at he
                split at he
                · cases he
                · rename_i hz
                  have hz' : ei.size ≠ 0 := fun e => hz (by rw [e]; rfl)
                  cases he
                  refine ⟨_, hrun, ?_⟩
                  simp only [VR, if_true]
                  refine ⟨hi0, c' - l1, ?_, by omega, fun h0 => ?_⟩
                  · rw [if_neg (by omega)]
                    simp [addr_add]
                  · exfalso
                    have : 0 < l1 * ei.size := Nat.mul_pos (by omega) (by omega)
                    omega
          · cases he
        · cases he
    · cases he
  · -- nil
    rename_i e hd
    rw [hd] at hu
    simp only [VR] at ha; subst ha
    split at he
    · rename_i ei hte
      have hs := ok.sizeOf hte w
      split at he
      · rename_i h1 e1
        split at he
        · rename_i l1 e2
          cases he
          have hvm : vm = none := by cases vm with | none => rfl | some v => exact hm.elim
          subst hvm
          obtain ⟨hb, b1, b2, b3, b4, b5⟩ := run_bounds (P := P) (w := w) (isS := true) (mx := none) (vm := none) hl hh trivial (c := 0) (m := 0) rfl e1 e2 (by simp)
          have h10 : h1 = 0 := by
            cases hi with
            | none => simp [aBnd] at e1; omega
            | some z => have := b1 rfl; omega
          have l10 : l1 = 0 := by omega
          subst h10; subst l10
          exact ⟨.slice none 0 0, by rw [run_slice_sl (a := none) hu hs hb]; rfl, by simp only [VR]⟩
        · cases he
      · cases he
    · rename_i z ei hte
      have hs := ok.sizeOf hte w
      split at he
      · rename_i y0
        split at he
        · rename_i m1 em
          split at he
          · rename_i h1 e1
            split at he
            · rename_i l1 e2
              cases he
              obtain ⟨hb, b1, b2, b3, b4, b5⟩ := run_bounds (P := P) (w := w) (isS := true) (c := 0) hl hh hm em e1 e2 (fun _ => rfl)
              have h10 : m1 = 0 := by omega
              have h11 : h1 = 0 := by have := b1 rfl; omega
              have l10 : l1 = 0 := by omega
              subst h10; subst h11; subst l10
              exact ⟨.slice none 0 0, by rw [run_slice_sl (a := none) hu hs hb]; rfl, by simp only [VR]⟩
            · cases he
          · cases he
        · cases he
      · cases he
    · cases he
  · -- not nil, but empty
    rename_i e hd
    rw [hd] at hu
    simp only [VR] at ha
    obtain ⟨ad, c', rfl⟩ := ha
    split at he
    · rename_i ei hte
      have hs := ok.sizeOf hte w
      split at he
      · rename_i h1 e1
        split at he
        · rename_i l1 e2
          cases he
          have hvm : vm = none := by cases vm with | none => rfl | some v => exact hm.elim
          subst hvm
          have h10 : h1 = 0 := by
            cases hi with
            | none => simp [aBnd] at e1; omega
            | some z => cases vh with
              | none => exact hh.elim
              | some v => have := (aBnd_some hh e1).1; omega
          subst h10
          have e1' : aBnd hi 0 c' = some 0 := by
            cases hi with
            | none => simp [aBnd]
            | some z =>
              simp only [aBnd] at e1 ⊢
              split at e1
              · rw [cond_eq_ite] at e1 ⊢
                split at e1
                · cases e1
                  rw [if_pos (Nat.ble_eq_true_of_le (by omega))]
                · cases e1
              · cases e1
          obtain ⟨hb, b1, b2, b3, b4, b5⟩ := run_bounds (P := P) (w := w) (isS := true) (mx := none) (vm := none) hl hh trivial (c := c') (m := c') rfl e1' e2 (by simp)
          refine ⟨_, run_slice_sl (a := some ad) hu hs hb, ?_⟩
          simp only [VR]
          have : 0 - l1 = 0 := by omega
          rw [this]
          split
          · exact ⟨_, _, rfl⟩
          · exact ⟨_, _, rfl⟩
        · cases he
      · cases he
    · cases he
  · -- array
    rename_i n e i o hd
    rw [hd] at hu
    simp only [VR] at ha
    obtain ⟨hi0, rfl⟩ := ha
    split at he
    · rename_i ei m hte em
      have hs := ok.sizeOf hte w
      split at he
      · cases he
      · rename_i hx
        split at he
        · rename_i h1 e1
          split at he
          · rename_i l1 e2
            cases he
            obtain ⟨hb, b1, b2, b3, b4, b5⟩ := run_bounds (P := P) (w := w) (isS := false) hl hh hm em e1 e2 (fun hs => by
              cases mx with
              | none => simp at hs
              | some z => cases hi with
                | none => exact absurd rfl (hx z rfl)
                | some y => rfl)
            refine ⟨_, run_slice_arr hu hs hb, ?_⟩
            simp only [VR, Bool.false_eq_true, if_false]
            refine ⟨hi0, ?_, ?_⟩
            · congr 2
              by_cases hml : m = l1
              · subst hml; simp
              · rw [if_neg hml]
                have : Nat.beq m l1 = false := beqF hml
                rw [this]; simp [addr_add]
            · have : h1 ≤ m := by
                cases hi with
                | none =>
                  have := b2 rfl
                  cases mx with
                  | none => have := b5 rfl; omega
                  | some z => exact absurd rfl (hx z rfl)
                | some y => exact b1 rfl
              omega
          · cases he
        · cases he
    · cases he
  · cases he

theorem bytesOf_sound : ∀ {cs : List AV} {l : List UInt8}, bytesOf cs = some l → ∀ {vs : List Value}, VRL σ cs vs → ∃ ns : List Int, vs = ns.map (Value.int .u8) ∧ l = ns.map fun n => UInt8.ofNat n.toNat := by
  intro cs
  induction cs with
  | nil =>
    intro l h1 vs h2
    simp [bytesOf] at h1; subst h1
    simp only [VRL] at h2; subst h2
    exact ⟨[], rfl, rfl⟩
  | cons c cs ih =>
    intro l h1 vs h2
    unfold bytesOf at h1
    split at h1
    · rename_i hx; cases hx
    · rename_i n r hx
      cases hx
      split at h1
      · rename_i l' hl'
        cases h1
        simp only [VRL, VR] at h2
        obtain ⟨y, ys, rfl, rfl, h3⟩ := h2
        obtain ⟨ns, rfl, rfl⟩ := ih hl' h3
        exact ⟨n :: ns, rfl, rfl⟩
      · cases h1
    · cases h1

theorem foldl_push : ∀ (ns : List Int) (acc : ByteArray), ns.foldl (fun r n => r.push (UInt8.ofNat n.toNat)) acc = ⟨acc.data ++ (ns.map fun n => UInt8.ofNat n.toNat).toArray⟩
  | [], acc => by simp
  | n :: ns, acc => by
      simp only [List.foldl_cons, foldl_push ns]
      congr 1
      simp [ByteArray.push]
end
end Go.Proofs.Yteblojfcalgoeaa

/- The abstract machine: all reading operations are sound. Conditions: none. -/
namespace Go.Proofs.Yteblojfcalgoeaa
open Go Go.RowKit

section
variable {P : Program} {E : Env} {σ : Sig} {B : Nat} {W0 : World} {h : AH} {w : World} {size : TypeId → Option Nat}

theorem aConvQ_sound (ok : EnvT P E) (r : R size B W0 σ h w) {s d : TypeId} {x y : AV} {a : Value} (ha : VR σ x a) (he : aConvQ E h s d x = some y) :
    ∃ v, (convert s d a).run P w = .ok v w ∧ VR σ y v := by
  unfold aConvQ at he
  split at he
  case h_2 => cases he
  rename_i si di hs hd
  have us := (ok.ty s si hs).1
  have ud := (ok.ty d di hd).1
  split at he
  · rename_i k kx n hk
    rw [hk] at ud
    simp only [VR] at ha; subst ha
    simp only [mkI_eq, Option.some.injEq] at he; subst he
    exact ⟨.int k (k.wrap n), by simp [convert, run_underlying us, run_underlying ud, Conv.intToInt], by simp only [VR]⟩
  · rename_i t hk
    rw [hk] at ud
    simp only [VR] at ha; subst ha
    cases he
    exact ⟨_, by simp [convert, run_underlying us, run_underlying ud]; rfl, by simp only [VR]⟩
  · rename_i hk _
    rw [hk] at ud
    split at he
    case h_2 => cases he
    rename_i e hse
    rw [hse] at us
    split at he
    case h_2 => cases he
    rename_i ei hte
    have ue := (ok.ty e ei hte).1
    split at he
    case h_2 => cases he
    rename_i hu8
    rw [hu8] at ue
    split at he
    · cases he
      simp only [VR] at ha; subst ha
      refine ⟨.string .empty, ?_, by simp only [VR]; rfl⟩
      rw [run_convert_bytes_string w s d e _ _ _ us ue ud]
      rfl
    · cases he
      simp only [VR] at ha
      obtain ⟨ad, c, rfl⟩ := ha
      refine ⟨.string .empty, ?_, by simp only [VR]; rfl⟩
      rw [run_convert_bytes_string w s d e _ _ _ us ue ud]
      exact run_bytesToString w ad 0 c [] (by simp [loadCells, loadCellsFrom])
    · rename_i i o n c l
      split at he
      case h_2 => cases he
      rename_i cs t' m hg
      rw [cond_eq_ite] at he
      split at he
      case isFalse => cases he
      rename_i hb
      split at he
      case h_2 => cases he
      rename_i bs hbs
      cases he
      obtain ⟨hi, c', rfl, _⟩ := VR.sl_inv ha
      obtain ⟨us', hr, hx⟩ := r.run_cells (P := P) hi hg (Nat.le_of_ble_eq_true hb)
      obtain ⟨ns, hns, hl⟩ := bytesOf_sound hbs hx
      have e1 : us' = (ns.map (Value.int .u8)).toArray := by rw [← hns]
      rw [e1] at hr
      refine ⟨.string ⟨bs.toArray⟩, ?_, by simp only [VR]⟩
      rw [run_convert_bytes_string w s d e _ _ _ us ue ud, run_bytesToString w _ _ c' ns hr, foldl_push, ← hl]
      simp [ByteArray.empty, ByteArray.emptyWithCapacity]
      rfl
    · cases he
  · cases he

theorem R.run_map' (r : R size B W0 σ h w) {i : Nat} (hi : i < σ.n) {es : List (List UInt8 × AV)} (ho : h.get i = .map es) :
    ∃ en clock, w.heap[(σ.at_ i).block]? = some (.map en clock) ∧ (getObj (σ.at_ i).block).run P w = .ok (.map en clock) w ∧ en.size = es.length ∧
      (∀ (k : Nat) (x : List UInt8 × AV) (e : MapEntry), es[k]? = some x → en[k]? = some e → e.key = .string ⟨x.1.toArray⟩ ∧ VR σ x.2 e.val) ∧ Born en clock := by
  have := r.obj i (by rw [← r.n]; exact hi)
  rw [ho] at this
  obtain ⟨_, en, cl, hb, hn, hm, hbn⟩ := this
  exact ⟨en, cl, hb, by simp [getObj, Sem.run, hb], hn, hm, hbn⟩
theorem R.run_map (r : R size B W0 σ h w) {i : Nat} (hi : i < σ.n) {es : List (List UInt8 × AV)} (ho : h.get i = .map es) :
    ∃ en clock, w.heap[(σ.at_ i).block]? = some (.map en clock) ∧ (getObj (σ.at_ i).block).run P w = .ok (.map en clock) w ∧ en.size = es.length ∧
      ∀ (k : Nat) (x : List UInt8 × AV) (e : MapEntry), es[k]? = some x → en[k]? = some e → e.key = .string ⟨x.1.toArray⟩ ∧ VR σ x.2 e.val := by
  obtain ⟨en, cl, h1, h2, h3, h4, _⟩ := r.run_map' (P := P) hi ho
  exact ⟨en, cl, h1, h2, h3, h4⟩

theorem aLen_sound (ok : EnvT P E) (r : R size B W0 σ h w) {t ty : TypeId} {x y : AV} {a : Value} (ha : VR σ x a) (he : aLen E t h x = some y) :
    ∃ v, (Builtin.len_ #[t] ty #[a]).run P w = .ok v w ∧ VR σ y v := by
  unfold aLen at he
  split at he
  case h_2 => cases he
  rename_i ti ht
  have hu := ok.und ht w
  split at he
  · rename_i s hd; rw [hd] at hu
    simp only [VR] at ha; subst ha; cases he
    exact ⟨_, by simp [Builtin.len_, hu, goInt]; rfl, by simp only [VR]; simp [ByteArray.size]⟩
  · rename_i n e hd; rw [hd] at hu
    cases he
    exact ⟨.int .i64 n, by cases a <;> simp [Builtin.len_, hu, goInt], by simp only [VR]⟩
  · rename_i e i o n c l hd; rw [hd] at hu
    cases he
    obtain ⟨_, c', rfl, _⟩ := VR.sl_inv ha
    exact ⟨_, by simp [Builtin.len_, hu, goInt]; rfl, by simp only [VR]⟩
  · rename_i e hd; rw [hd] at hu
    cases he
    simp only [VR] at ha; obtain ⟨ad, c, rfl⟩ := ha
    exact ⟨_, by simp [Builtin.len_, hu, goInt]; rfl, by simp only [VR]⟩
  · rename_i e hd; rw [hd] at hu
    cases he
    simp only [VR] at ha; subst ha
    exact ⟨_, by simp [Builtin.len_, hu, goInt]; rfl, by simp only [VR]⟩
  · rename_i k e hd; rw [hd] at hu
    cases he
    simp only [VR] at ha; subst ha
    exact ⟨_, by simp [Builtin.len_, hu, goInt]; rfl, by simp only [VR]⟩
  · rename_i k e i hd; rw [hd] at hu
    split at he
    · rename_i es hg
      cases he
      simp only [VR] at ha; obtain ⟨hi, rfl⟩ := ha
      obtain ⟨en, cl, _, hr, hn, _⟩ := r.run_map (P := P) hi hg
      exact ⟨_, by simp [Builtin.len_, hu, goInt, hr, hn]; rfl, by simp only [VR]⟩
    · cases he
  · cases he

theorem aMin_sound {b : Bool} {x y z : AV} {a c : Value} (ha : VR σ x a) (hc : VR σ y c) (he : aMin b x y = some z) :
    ∃ v, (if b then Builtin.max2 a c else Builtin.min2 a c).run P w = .ok v w ∧ VR σ z v := by
  unfold aMin at he
  split at he
  · simp only [VR] at ha hc; subst ha; subst hc
    cases b
    · simp at he; subst he; exact ⟨_, by simp [Builtin.min2]; rfl, by simp only [VR]⟩
    · simp at he; subst he; exact ⟨_, by simp [Builtin.max2]; rfl, by simp only [VR]⟩
  · cases he

theorem aMinL_sound {b : Bool} : ∀ {l : List AV} {x z : AV} {a : Value} {vs : List Value}, VR σ x a → VRL σ l vs → aMinL b x l = some z →
    ∃ v, (vs.foldlM (if b then Builtin.max2 else Builtin.min2) a).run P w = .ok v w ∧ VR σ z v
  | [], x, z, a, vs, ha, hl, he => by
      simp only [VRL] at hl; subst hl
      simp [aMinL] at he; subst he
      exact ⟨a, by simp, ha⟩
  | y :: l, x, z, a, vs, ha, hl, he => by
      simp only [VRL] at hl
      obtain ⟨c, vs', rfl, hc, hl'⟩ := hl
      simp only [aMinL] at he
      split at he
      · rename_i u hu
        obtain ⟨v, hv, hr⟩ := aMin_sound (P := P) (w := w) ha hc hu
        obtain ⟨v', hv', hr'⟩ := aMinL_sound (b := b) hr hl' he
        refine ⟨v', ?_, hr'⟩
        simp only [List.foldlM_cons, Sem.run_bind]
        have : (if b = true then Builtin.max2 else Builtin.min2) a c = (if b = true then Builtin.max2 a c else Builtin.min2 a c) := by cases b <;> rfl
        rw [this, hv]
        exact hv'
      · cases he

theorem VRL.map_ev {fr : Nat → AV} {a : Act} (hf : FR σ fr a) : ∀ l : List Operand, VRL σ (l.map (ev fr)) (l.map a.eval)
  | [] => by simp only [List.map_nil, VRL]
  | x :: l => by simp only [List.map_cons, VRL]; exact ⟨_, _, rfl, hf.ev x, VRL.map_ev hf l⟩

theorem str_beq (a b : List UInt8) : ((ByteArray.mk a.toArray) == (ByteArray.mk b.toArray)) = (a == b) := by
  rw [beq_toListBytes, str_toList, str_toList]

theorem findNow_sound {k : List UInt8} : ∀ {es : List (List UInt8 × AV)} {en : List MapEntry} (n : Nat), en.length = es.length →
    (∀ (j : Nat) (x : List UInt8 × AV) (e : MapEntry), es[j]? = some x → en[j]? = some e → e.key = .string ⟨x.1.toArray⟩ ∧ VR σ x.2 e.val) →
    (∀ v, findK k es = some v → ∃ i u, Instr.findNow .string (.string ⟨k.toArray⟩) en n = some (some (i, u)) ∧ VR σ v u) ∧
    (findK k es = none → Instr.findNow .string (.string ⟨k.toArray⟩) en n = some none)
  | [], [], n, _, _ => ⟨fun v h => by simp [findK] at h, fun _ => rfl⟩
  | [], e :: en, n, h, _ => by simp at h
  | x :: es, [], n, h, _ => by simp at h
  | (k', v') :: es, e :: en, n, hl, hm => by
      obtain ⟨hk, hv⟩ := hm 0 (k', v') e (by simp) (by simp)
      have ih := findNow_sound (k := k) (es := es) (en := en) (n + 1) (by simpa using hl) fun j x e hx he => hm (j + 1) x e (by simpa using hx) (by simpa using he)
      have e0 : Instr.sameNow .string (.string ⟨k.toArray⟩) e.key = some (k == k') := by rw [hk]; simp only [Instr.sameNow]; rw [str_beq]
      simp only [findK]
      cases hb : (k == k')
      · simp only [cond_false]
        rw [hb] at e0
        refine ⟨fun v h => ?_, fun h => ?_⟩
        · obtain ⟨i, u, h1, h2⟩ := ih.1 v h
          exact ⟨i, u, by simp only [Instr.findNow, e0]; exact h1, h2⟩
        · simp only [Instr.findNow, e0]; exact ih.2 h
      · simp only [cond_true]
        rw [hb] at e0
        refine ⟨fun v h => ?_, fun h => by cases h⟩
        cases h
        exact ⟨n, e.val, by simp only [Instr.findNow, e0], hv⟩

theorem run_checkKey {b : Bool} {t : TypeId} (ht : (underlying t).run P w = .ok .string w) (v : Value) : (Instr.checkKey b 10000 t v).run P w = .ok () w := by
  have : ∀ n, (Instr.checkKey b (n + 1) t v).run P w = .ok () w := fun n => by
    simp only [Instr.checkKey, Sem.run_bind, ht, Result.andThen_ok]; rfl
  exact this 9999

theorem VR.zero (ok : EnvT P E) {t : TypeId} {i : TI} (ht : E.ty t = some i) (w : World) : ∃ z, (zeroValue t).run P w = .ok z w ∧ VR σ i.zero z := by
  obtain ⟨j, hj, _, _, z, hz, _, _, _, hr⟩ := (ok.ty t i ht).2
  exact ⟨z, by simp [zeroValue, typeInfo, hj, hz], hr σ⟩

theorem aLookup_sound (ok : EnvT P E) (r : R size B W0 σ h w) {t : TypeId} {x k y : AV} {a b : Value} {c : Bool} (ha : VR σ x a) (hb : VR σ k b) (he : aLookup E t h x k c = some y) :
    ∃ v, (Instr.lookup t a b c).run P w = .ok v w ∧ VR σ y v := by
  unfold aLookup at he
  split at he
  case h_2 => cases he
  rename_i ti ht
  have hu := ok.und ht w
  split at he
  case h_2 => cases he
  rename_i kt et hd
  rw [hd] at hu
  split at he
  case h_2 => cases he
  rename_i ki ei s hki hei
  have hku := ok.und hki w
  split at he
  case h_2 => cases he
  rename_i hks
  rw [hks] at hku
  simp only [VR] at hb; subst hb
  obtain ⟨z, hz, hzr⟩ := VR.zero (σ := σ) ok hei w
  simp only at he
  split at he
  case h_2 => cases he
  rename_i es hes
  -- the entries
  have hen : ∃ en : Array MapEntry, (∀ K : Array MapEntry → Sem Value, (do
      let es ← match a with
        | .map none => pure #[]
        | .map (some r) => do
          let .map es _ ← getObj r | stuck "Lookup: map expected"
          pure es
        | _ => stuck "Lookup: map expected"
      K es).run P w = (K en).run P w) ∧ en.toList.length = es.length ∧
      ∀ (j : Nat) (x : List UInt8 × AV) (e : MapEntry), es[j]? = some x → en.toList[j]? = some e → e.key = .string ⟨x.1.toArray⟩ ∧ VR σ x.2 e.val := by
    split at hes
    · cases hes
      simp only [VR] at ha; subst ha
      exact ⟨#[], fun K => by simp, by simp, by simp⟩
    · rename_i i
      split at hes
      · rename_i es' hg
        cases hes
        simp only [VR] at ha; obtain ⟨hi, rfl⟩ := ha
        obtain ⟨en, cl, _, hr, hn, hm⟩ := r.run_map (P := P) hi hg
        exact ⟨en, fun K => by simp [hr], by simpa using hn, fun j x e hx he => hm j x e hx (by rw [← Array.getElem?_toList]; exact he)⟩
      · cases hes
    · cases hes
  obtain ⟨en, hK, hl, hm⟩ := hen
  obtain ⟨f1, f2⟩ := findNow_sound (σ := σ) (k := s) 0 hl hm
  have e0 : (Instr.lookup t a (.string ⟨s.toArray⟩) c).run P w = ((do
      Instr.checkKey en.isEmpty 10000 kt (.string ⟨s.toArray⟩)
      let (v, ok) ← match ← Instr.findKey kt (.string ⟨s.toArray⟩) en.toList with
        | some (_, v) => pure (v, true)
        | none => pure (← zeroValue et, false)
      pure (if c then .tuple #[v, .bool ok] else v) : Sem Value)).run P w := by
    unfold Instr.lookup
    simp only [Sem.run_bind, hu, Result.andThen_ok]
    have := hK fun es => (do
      Instr.checkKey es.isEmpty 10000 kt (.string ⟨s.toArray⟩)
      let (v, ok) ← match ← Instr.findKey kt (.string ⟨s.toArray⟩) es.toList with
        | some (_, v) => pure (v, true)
        | none => pure (← zeroValue et, false)
      pure (if c then .tuple #[v, .bool ok] else v) : Sem Value)
    simp only [Sem.run_bind] at this
    exact this
  rw [e0]
  simp only [Sem.run_bind, run_checkKey hku, Result.andThen_ok, Instr.findKey, hku]
  cases hf : findK s es with
  | some v =>
    rw [hf] at he
    obtain ⟨i, u, h1, h2⟩ := f1 v hf
    simp only [h1, Sem.run_pure, Result.andThen_ok]
    cases c
    · simp at he; subst he; exact ⟨u, by simp, h2⟩
    · simp at he; subst he; exact ⟨.tuple #[u, .bool true], by simp, by simp [VR, VRL, h2]⟩
  | none =>
    rw [hf] at he
    simp only [f2 hf, Sem.run_pure, Result.andThen_ok, Sem.run_bind, hz]
    cases c
    · simp at he; subst he; exact ⟨z, by simp, hzr⟩
    · simp at he; subst he; exact ⟨.tuple #[z, .bool false], by simp, by simp [VR, VRL, hzr]⟩

theorem aAssert_sound (ok : EnvT P E) {t tx : TypeId} {x y : AV} {a : Value} (ha : VR σ x a) (he : aAssert E t x = some y) :
    ∃ v, (Instr.typeAssert a tx t true).run P w = .ok v w ∧ VR σ y v := by
  unfold aAssert at he
  split at he
  case h_2 => cases he
  rename_i ti ht
  have hu := ok.und ht w
  obtain ⟨z, hz, hzr⟩ := VR.zero (σ := σ) ok ht w
  split at he
  · cases he
  · rename_i hni
    cases he
    simp only [VR] at ha; subst ha
    refine ⟨.tuple #[z, .bool false], ?_, by simp [VR, VRL, hzr]⟩
    unfold Instr.typeAssert
    simp only [Sem.run_bind, hu, Result.andThen_ok]
    cases hd : ti.und <;> first | (exact absurd hd (hni _)) | simp [hz]
  · rename_i u v hni
    simp only [VR] at ha; obtain ⟨y', rfl, hy⟩ := ha
    split at he
    · rename_i hut
      cases he
      refine ⟨.tuple #[y', .bool true], ?_, by simp [VR, VRL, hy]⟩
      unfold Instr.typeAssert
      simp only [Sem.run_bind, hu, Result.andThen_ok]
      cases hd : ti.und <;> first | (exact absurd hd (hni _)) | simp [hut]
    · rename_i hut
      cases he
      refine ⟨.tuple #[z, .bool false], ?_, by simp [VR, VRL, hzr]⟩
      unfold Instr.typeAssert
      simp only [Sem.run_bind, hu, Result.andThen_ok]
      cases hd : ti.und <;> first | (exact absurd hd (hni _)) | simp [hut, hz]
  · cases he

theorem VRO.map_ev {fr : Nat → AV} {a : Act} (hf : FR σ fr a) (x : Option Operand) : VRO σ (x.map (ev fr)) (x.map a.eval) := by
  cases x with
  | none => trivial
  | some x => exact hf.ev x

theorem qOp_sound (ok : EnvT P E) (r : R size B W0 σ h w) {fr : Nat → AV} {a : Act} (hf : FR σ fr a) {o : Oper} {y : AV} (he : qOp E fr h o.op = some y) :
    ∃ v, (execOp a.eval o).run P w = .ok (.value v) w ∧ VR σ y v := by
  have lift : ∀ {s : Sem Value} {v : Value}, s.run P w = .ok v w → (do pure (Next.value (← s)) : Sem Next).run P w = .ok (.value v) w := fun {s v} h => by simp [h]
  obtain ⟨dst, op, ty, pos, after, guard⟩ := o
  simp only at he
  unfold qOp at he
  cases op <;> simp only at he <;> try (cases he; done)
  case move x => cases he; exact ⟨_, rfl, hf.ev x⟩
  case assign x => cases he; exact ⟨_, rfl, hf.ev x⟩
  case pick c x y =>
    split at he
    · rename_i t ht
      cases he
      have := hf.ev c
      rw [ht] at this
      simp only [VR] at this
      refine ⟨if t then a.eval x else a.eval y, by simp [execOp, this, asBool], ?_⟩
      cases t
      · exact hf.ev y
      · exact hf.ev x
    · cases he
  case load t x =>
    obtain ⟨v, hv, hr⟩ := aLoad_sound ok r (hf.ev x) he
    exact ⟨v, lift hv, hr⟩
  case nilCheck x =>
    have hx := hf.ev x
    split at he
    · rename_i e
      cases he
      rw [e] at hx
      have h0 := hx
      simp only [VR] at hx
      refine ⟨a.eval x, by simp only [execOp, hx.2]; rfl, h0⟩
    · rename_i e
      cases he
      rw [e] at hx
      have h0 := hx
      simp only [VR] at hx
      obtain ⟨z, hz, _⟩ := hx
      refine ⟨a.eval x, by simp only [execOp, hz]; rfl, h0⟩
    · rename_i e
      cases he
      rw [e] at hx
      have h0 := hx
      simp only [VR] at hx
      obtain ⟨p, q, hz, _⟩ := hx
      refine ⟨a.eval x, by simp only [execOp, hz]; rfl, h0⟩
    · cases he
  case binOp op t x y yt =>
    obtain ⟨v, hv, hr⟩ := aBin_sound (P := P) (w := w) ok (hf.ev x) (hf.ev y) he x y
    exact ⟨v, lift hv, hr⟩
  case unOp op t x =>
    obtain ⟨v, hv, hr⟩ := aUn_sound (P := P) (w := w) (hf.ev x) he
    exact ⟨v, lift hv, hr⟩
  case convert s d x =>
    obtain ⟨v, hv, hr⟩ := aConvQ_sound ok r (hf.ev x) he
    exact ⟨v, lift hv, hr⟩
  case sliceToArrayPointer t x =>
    split at he
    case h_2 => cases he
    rename_i ti i o' n c l ht hx
    have hu := ok.und ht w
    have h0 := hf.ev x
    rw [hx] at h0
    obtain ⟨hi, c', hz, _⟩ := VR.sl_inv h0
    split at he
    case h_2 => cases he
    rename_i m e hd
    rw [hd] at hu
    rw [cond_eq_ite] at he
    split at he
    case isFalse => cases he
    rename_i hb
    cases he
    have hle := Nat.le_of_ble_eq_true hb
    refine ⟨.pointer (some (σ.addr i o')), lift ?_, by simp only [VR]; exact ⟨hi, trivial⟩⟩
    simp [Instr.arrayAt, hu, hz, Nat.not_lt.2 hle]
  case makeInterface t x =>
    split at he
    case h_2 => cases he
    rename_i ti ht
    have hu := ok.und ht w
    split at he
    · cases he
    · rename_i hni
      cases he
      refine ⟨.iface t (a.eval x), lift ?_, by simp only [VR]; exact ⟨_, rfl, hf.ev x⟩⟩
      unfold Instr.makeInterface
      simp only [Sem.run_bind, hu, Result.andThen_ok]
      cases hd : ti.und <;> first | (exact absurd hd (hni _)) | rfl
  case makeFunc f first cap =>
    cases he
    refine ⟨.func f (first.map a.eval) (cap.map a.eval), lift rfl, ?_⟩
    simp only [VR]
    exact ⟨_, _, rfl, by rw [Array.toList_map]; exact VRL.map_ev hf _, by rw [Array.toList_map]; exact VRL.map_ev hf _⟩
  case slice t x lo hi mx =>
    obtain ⟨v, hv, hr⟩ := aSlice_sound (P := P) (w := w) ok (hf.ev x) (VRO.map_ev hf lo) (VRO.map_ev hf hi) (VRO.map_ev hf mx) he
    exact ⟨v, lift hv, hr⟩
  case fieldAddr t x f =>
    obtain ⟨v, hv, hr⟩ := aFieldAt_sound (P := P) (w := w) ok (hf.ev x) he
    exact ⟨v, lift hv, hr⟩
  case field t x f =>
    obtain ⟨v, hv, hr⟩ := aField_sound (P := P) (w := w) ok (hf.ev x) he
    exact ⟨v, lift hv, hr⟩
  case indexAddr t x ix =>
    obtain ⟨v, hv, hr⟩ := aIndexAt_sound (P := P) (w := w) ok (hf.ev x) (hf.ev ix) he
    exact ⟨v, lift hv, hr⟩
  case index t x ix =>
    obtain ⟨v, hv, hr⟩ := aIndex_sound (P := P) (w := w) ok (hf.ev x) (hf.ev ix) he
    exact ⟨v, lift hv, hr⟩
  case lookup t x k c =>
    obtain ⟨v, hv, hr⟩ := aLookup_sound ok r (hf.ev x) (hf.ev k) he
    exact ⟨v, lift hv, hr⟩
  case typeAssert x tx t c =>
    rw [cond_eq_ite] at he
    split at he
    case isFalse => cases he
    rename_i hc
    subst hc
    obtain ⟨v, hv, hr⟩ := aAssert_sound (P := P) (w := w) (tx := tx) ok (hf.ev x) he
    exact ⟨v, lift hv, hr⟩
  case extract x i =>
    split at he
    · rename_i vs hx
      have h0 := hf.ev x
      rw [hx] at h0
      simp only [VR] at h0
      obtain ⟨us, hz, hc⟩ := h0
      obtain ⟨u, hu, hr⟩ := hc.get he
      have hu' : us[i]? = some u := by rw [← Array.getElem?_toList]; exact hu
      exact ⟨u, lift (by simp [Instr.extract, hz, hu']), hr⟩
    · cases he
  case call c =>
    split at he
    case h_2 => cases he
    rename_i b hb
    have e1 : (execOp a.eval (⟨dst, .call c, ty, pos, after, guard⟩ : Oper)).run P w = (builtin b c.argTypes ty (c.args.map fun | .const _ => true | _ => false) (c.args.map a.eval)).run P w := by
      simp only [execOp, resolve, hb]
      rfl
    rw [e1]
    unfold qBuiltin at he
    split at he
    · rename_i v0 t hx0 ht
      obtain ⟨x, hx, rfl⟩ := map_one hx0
      have hx' : c.args = #[x] := by rw [← Array.toArray_toList (xs := c.args), hx]
      have ht' : c.argTypes = #[t] := by rw [← Array.toArray_toList (xs := c.argTypes), ht]
      obtain ⟨v, hv, hr⟩ := aLen_sound (P := P) (ty := ty) ok r (hf.ev x) he
      refine ⟨v, ?_, hr⟩
      rw [hx', ht']
      have := lift hv
      simpa [builtin] using this
    · rename_i v0 r0 hx0
      obtain ⟨x, rest, hx, rfl, rfl⟩ := map_cons hx0
      obtain ⟨v, hv, hr⟩ := aMinL_sound (P := P) (w := w) (b := false) (hf.ev x) (VRL.map_ev hf rest) he
      have e2 : (c.args.map a.eval).toList = a.eval x :: rest.map a.eval := by simp [hx]
      refine ⟨v, lift (s := Builtin.min_ c.argTypes ty (c.args.map a.eval)) ?_, hr⟩
      simp only [Builtin.min_, e2]
      exact hv
    · rename_i v0 r0 hx0
      obtain ⟨x, rest, hx, rfl, rfl⟩ := map_cons hx0
      obtain ⟨v, hv, hr⟩ := aMinL_sound (P := P) (w := w) (b := true) (hf.ev x) (VRL.map_ev hf rest) he
      have e2 : (c.args.map a.eval).toList = a.eval x :: rest.map a.eval := by simp [hx]
      refine ⟨v, lift (s := Builtin.max_ c.argTypes ty (c.args.map a.eval)) ?_, hr⟩
      simp only [Builtin.max_, e2]
      exact hv
    · cases he
end
end Go.Proofs.Yteblojfcalgoeaa
