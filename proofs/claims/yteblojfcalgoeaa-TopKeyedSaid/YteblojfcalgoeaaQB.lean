/- Parts of the abstract machine and of its laws, joined. Conditions: none. -/
import Derived.Test.YteblojfcalgoeaaQA
import Derived.Scope
set_option linter.unusedVariables false
set_option linter.unusedSimpArgs false
/- The abstract machine: storing and new objects. Conditions: none. -/
namespace Go.Proofs.Yteblojfcalgoeaa
open Go Go.RowKit

def setFrom : List AV → Nat → List AV → List AV
  | cs, _, [] => cs
  | cs, o, v :: vs => setFrom (cs.set o v) (o + 1) vs

theorem setFrom_length : ∀ (vs cs : List AV) (o : Nat), (setFrom cs o vs).length = cs.length
  | [], _, _ => rfl
  | v :: vs, cs, o => by simp [setFrom, setFrom_length vs]

theorem AH.set_set (h : AH) (i : Nat) (a b : AO) : (h.set i a).set i b = h.set i b := by
  unfold AH.set
  congr 1
  funext j
  cases hb : Nat.beq j i <;> simp [hb]
theorem AH.get_set_same (h : AH) (i : Nat) (a : AO) : (h.set i a).get i = a := by rw [AH.get_set, if_pos rfl]

section
variable {P : Program} {E : Env} {σ : Sig} {B : Nat} {W0 : World} {h : AH} {w : World} {size : TypeId → Option Nat}

theorem R.store1 (r : R size B W0 σ h w) {i : Nat} (hi : i < σ.n) {cs : List AV} {t : TypeId} {m : Mode} (hg : h.get i = .cells cs t m) (hm : m ≠ .ro) {o : Nat} (ho : o < cs.length)
    {x : AV} {v : Value} (hv : VR σ x v) (hat : x.atom = true) :
    (store (σ.addr i o) v).run P w = .ok () (w.setCell (σ.addr i o) v) ∧ R size B W0 σ (h.set i (.cells (cs.set o x) t m)) (w.setCell (σ.addr i o) v) := by
  have hob := r.obj i (by rw [← r.n]; exact hi)
  rw [hg] at hob
  obtain ⟨c, e, fr, hb, hc, hw⟩ := hob.row
  obtain ⟨hB, h0, hfz, hown, hloose⟩ := hw hm
  have haddr : σ.addr i o = ⟨(σ.at_ i).block, o, none⟩ := by simp [Sig.addr, h0]
  obtain ⟨u, hu, _⟩ := hc o _ (List.getElem?_eq_getElem ho)
  rw [h0, Nat.zero_add] at hu
  have hoc : o < c.size := (Array.getElem?_eq_some_iff.1 hu).1
  have hcell : w.cell? (σ.addr i o) = some u := by rw [haddr]; simp [World.cell?, hb, hu]
  have hfro : w.frozen? (σ.addr i o) = false := by
    rw [haddr]
    simp only [World.frozen?, hb]
    have : ¬ (fr.1 ≤ o ∧ o < fr.2) := by omega
    simp only [Bool.and_eq_false_iff, decide_eq_false_iff_not]
    by_cases h1 : fr.1 ≤ o
    · right; exact fun h2 => this ⟨h1, h2⟩
    · left; exact h1
  have hheap : (w.setCell (σ.addr i o) v).heap[(σ.at_ i).block]? = some (.cells (c.setIfInBounds o v) e fr) := by
    rw [haddr]; simp [World.setCell, Array.getElem?_modify, hb]
  refine ⟨?_, R.set r (by rw [← r.n]; exact hi) (by rw [hg]; exact hm) (by simp) rfl rfl rfl (fun k hk => heap_setCell_other w _ k v (by rw [haddr]; exact hk)) hB ⟨_, e, fr, hheap, fun k y hy => ?_, fun _ => ⟨hB, h0, by simpa using hfz, fun hm' => by simpa using hown hm', fun hm' => by simpa using hloose hm'⟩⟩⟩
  · rw [run_store P w _ v _ (hv.atom hat).2, hcell]
    simp [hfro]
  · rw [h0, Nat.zero_add, Array.getElem?_setIfInBounds]
    rw [List.getElem?_set] at hy
    by_cases hk : o = k
    · subst hk
      rw [if_pos rfl, if_pos ho] at hy
      cases hy
      exact ⟨v, by rw [if_pos rfl, if_pos hoc], hv⟩
    · rw [if_neg hk] at hy ⊢
      obtain ⟨z, hz, hr⟩ := hc k y hy
      rw [h0, Nat.zero_add] at hz
      exact ⟨z, hz, hr⟩

theorem R.storeL : ∀ (vs : List AV) (us : List Value) (k : Nat) (cs : List AV) (h : AH) (w : World), R size B W0 σ h w → ∀ {i : Nat}, i < σ.n → ∀ {t : TypeId} {m : Mode}, h.get i = .cells cs t m → m ≠ .ro →
    ∀ {o : Nat}, o + k + vs.length ≤ cs.length → VRL σ vs us → (∀ x ∈ vs, x.atom = true) →
    ∃ w', (storeCells (σ.addr i o) us k).run P w = .ok () w' ∧ R size B W0 σ (h.set i (.cells (setFrom cs (o + k) vs) t m)) w'
  | [], us, k, cs, h, w, r, i, hi, t, m, hg, hm, o, ho, hv, ha => by
      simp only [VRL] at hv; subst hv
      refine ⟨w, rfl, ?_⟩
      simp only [setFrom]
      have : h.set i (.cells cs t m) = h := by
        unfold AH.set
        obtain ⟨n, g⟩ := h
        congr 1
        funext j
        cases hb : Nat.beq j i
        · rfl
        · have := Nat.eq_of_beq_eq_true hb; subst this; exact hg.symm
      rw [this]; exact r
  | x :: vs, us, k, cs, h, w, r, i, hi, t, m, hg, hm, o, ho, hv, ha => by
      simp only [VRL] at hv
      obtain ⟨y, ys, rfl, h1, h2⟩ := hv
      simp only [List.length_cons] at ho
      obtain ⟨hs, r1⟩ := r.store1 (P := P) hi hg hm (o := o + k) (by omega) h1 (ha x (by simp))
      obtain ⟨w', hs', r2⟩ := R.storeL vs ys (k + 1) (cs.set (o + k) x) _ _ r1 hi (AH.get_set_same _ _ _) hm (o := o) (by simp; omega) h2 (fun z hz => ha z (by simp [hz]))
      refine ⟨w', ?_, ?_⟩
      · simp only [storeCells, Sem.run_bind, addr_add, hs, Result.andThen_ok]
        exact hs'
      · rw [AH.set_set] at r2
        exact r2

theorem aNew (r : R size B W0 σ h w) {w0 : World} (hb : Below w.heap.size w w0) {cs : List AV} {c : Array Value} (hc : VRL σ cs c.toList) (t e : TypeId) :
    R size B W0 (σ.add ⟨w0.heap.size, 0, 0⟩) (h.push (.cells cs t .own)) (w0.alloc (.cells c e)) := by
  refine r.push (hb.alloc hb.size _) hb.size ?_
  have hse := σ.se_add ⟨w0.heap.size, 0, 0⟩
  refine ⟨c, e, (0, 0), by rw [σ.at_add]; exact heap_alloc_new w0 _, fun k v hv => ?_, fun _ => ⟨by rw [σ.at_add]; exact Nat.le_trans r.le hb.size, by rw [σ.at_add], .inl rfl, fun _ => by have := hc.length; simpa using this, fun h => by cases h⟩⟩
  obtain ⟨u, hu, hr⟩ := hc.get hv
  exact ⟨u, by rw [σ.at_add]; simpa [← Array.getElem?_toList] using hu, VR.mono hse _ _ hr⟩

theorem VR.new_ptr (w0 : World) (o : Nat) : VR (σ.add ⟨w0.heap.size, 0, 0⟩) (.ptr σ.n o) (.pointer (some ⟨w0.heap.size, o, none⟩)) := by
  simp only [VR]
  exact ⟨by simp [Sig.add], by simp [Sig.addr, σ.at_add]⟩

theorem VR.new_sl (w0 : World) {n c : Nat} (hn : n ≤ c) : VR (σ.add ⟨w0.heap.size, 0, 0⟩) (.sl σ.n 0 n c false) (.slice (some ⟨w0.heap.size, 0, none⟩) n c) := by
  simp only [VR, Bool.false_eq_true, if_false]
  exact ⟨by simp [Sig.add], by simp [Sig.addr, σ.at_add], hn⟩

/-! ### Parts put into a struct or an array -/
def aFill (place : Nat → Option (Nat × Nat)) : List AV → List (Nat × AV) → Option (List AV)
  | cs, [] => some cs
  | cs, (i, v) :: rest =>
    match place i with
    | none => none
    | some (off, s) => bif v.good && (Nat.beq v.cells.length s && Nat.ble (off + s) cs.length) then aFill place (setFrom cs off v.cells) rest else none

theorem setFrom_sound : ∀ (us : List Value) (vs cs : List AV) (c : Array Value) (off : Nat) (k : Nat), VRL σ cs c.toList → VRL σ vs us →
    VRL σ (setFrom cs (off + k) vs) ((us.zipIdx k).foldl (fun cs (x : Value × Nat) => cs.setIfInBounds (off + x.2) x.1) c).toList
  | [], vs, cs, c, off, k, hc, hv => by
      have : vs = [] := List.eq_nil_of_length_eq_zero (by simpa using hv.length.symm)
      subst this
      simpa [setFrom] using hc
  | u :: us, [], cs, c, off, k, hc, hv => by simp only [VRL] at hv; cases hv
  | u :: us, v :: vs, cs, c, off, k, hc, hv => by
      simp only [VRL] at hv
      obtain ⟨y, ys, e, h1, h2⟩ := hv
      cases e
      simp only [setFrom, List.zipIdx_cons, List.foldl_cons]
      refine setFrom_sound us vs (cs.set (off + k) v) (c.setIfInBounds (off + k) u) off (k + 1) ?_ h2
      refine VRL.of_get (by have := hc.length; simpa using this) fun j x y hx hy => ?_
      rw [Array.toList_setIfInBounds] at hy
      rw [List.getElem?_set] at hx hy
      by_cases hj : off + k = j
      · rw [if_pos hj] at hx hy
        split at hx
        · cases hx
          split at hy
          · cases hy; exact h1
          · cases hy
        · cases hx
      · rw [if_neg hj] at hx hy
        obtain ⟨z, hz, hr⟩ := hc.get hx
        rw [hz] at hy; cases hy; exact hr

theorem aFill_sound {pl pl' : Nat → Option (Nat × Nat)} (hp : ∀ i x, pl i = some x → pl' i = some x) : ∀ (parts : List (Nat × AV)) (ps : List (Nat × Value)) (cs : List AV) (c : Array Value) (out : List AV),
    VRL σ cs c.toList → parts.length = ps.length → (∀ (k : Nat) (x : Nat × AV) (y : Nat × Value), parts[k]? = some x → ps[k]? = some y → x.1 = y.1 ∧ VR σ x.2 y.2) → aFill pl cs parts = some out →
    ∃ c', Instr.fill pl' c ps = some c' ∧ VRL σ out c'.toList
  | [], [], cs, c, out, hc, _, _, he => by
      simp [aFill] at he; subst he
      exact ⟨c, rfl, hc⟩
  | [], y :: ps, _, _, _, _, hl, _, _ => by simp at hl
  | x :: parts, [], _, _, _, _, hl, _, _ => by simp at hl
  | (i, v) :: parts, (i', u) :: ps, cs, c, out, hc, hl, hx, he => by
      obtain ⟨h1, h2⟩ : i = i' ∧ VR σ v u := hx 0 (i, v) (i', u) (by simp) (by simp)
      subst h1
      simp only [aFill] at he
      split at he
      · cases he
      · rename_i off s hpl
        rw [cond_eq_ite] at he
        split at he
        case isFalse => cases he
        rename_i hcond
        simp only [Bool.and_eq_true] at hcond
        obtain ⟨hgood, hlen, hle⟩ := hcond
        have hlen := Nat.eq_of_beq_eq_true hlen
        have hle := Nat.le_of_ble_eq_true hle
        have hcells := h2.cells hgood
        have hsz : u.cells.size = s := by have := hcells.length; simp at this; omega
        have hcs : cs.length = c.size := by have := hc.length; simpa using this.symm
        have hstep := setFrom_sound u.cells.toList v.cells cs c off 0 hc hcells
        obtain ⟨c', hc', hr⟩ := aFill_sound hp parts ps (setFrom cs off v.cells) _ out hstep (by simpa using hl) (fun k x y hk hy => hx (k + 1) x y (by simpa using hk) (by simpa using hy)) he
        refine ⟨c', ?_, hr⟩
        simp only [Instr.fill, hp i _ hpl]
        have hno : ¬ ((decide (u.cells.size ≠ s) || decide (off + u.cells.size > c.size)) = true) := by
          rw [hsz, ← hcs]
          simp
          omega
        rw [if_neg hno]
        rw [← hc']
        congr 1
        rw [← Array.foldl_toList]
        simp
end
end Go.Proofs.Yteblojfcalgoeaa

/- The abstract machine: the operations that turn the heap. Conditions: none. -/
namespace Go.Proofs.Yteblojfcalgoeaa
open Go Go.RowKit

def repL (z : List AV) : Nat → List AV
  | 0 => []
  | n + 1 => z ++ repL z n

def aBuild (E : Env) (t : TypeId) (parts : List (Nat × AV)) : Option AV :=
  match E.ty t with
  | some ti =>
    match ti.und with
    | .struct fs => match aFill (fun i => match fs.toList[i]? with | some f => (match E.ty f.type with | some fi => some (f.offset, fi.size) | none => none) | none => none) ti.zero.cells parts with
      | some cs => bif fs.toList.all (fun f => (E.ty f.type).isSome) then some (.agg cs) else none
      | none => none
    | .array _ e => match E.ty e with
      | some ei => match aFill (fun i => some (i * ei.size, ei.size)) ti.zero.cells parts with
        | some cs => some (.agg cs)
        | none => none
      | none => none
    | _ => none
  | none => none

def aBuildSlice (E : Env) (h : AH) (t : TypeId) (n : Nat) (parts : List (Nat × AV)) : Option (AV × AH) :=
  match E.ty t with
  | some ti =>
    match ti.und with
    | .slice e => match E.ty e with
      | some ei => bif Nat.ble (n * ei.size) 16777216 then
          (match aFill (fun i => some (i * ei.size, ei.size)) (repL ei.zero.cells n) parts with
          | some cs => some (.sl h.next 0 n n false, h.push (.cells cs e .own))
          | none => none) else none
      | none => none
    | _ => none
  | none => none

def aStore (E : Env) (h : AH) (t : TypeId) (p v : AV) : Option AH :=
  match p, E.ty t with
  | .ptr i o, some ti =>
    match h.get i with
    | .cells cs t' m => bif v.good && (Nat.beq v.cells.length ti.size && (v.cells.all AV.atom && (decide (m ≠ .ro) && Nat.ble (o + v.cells.length) cs.length)))
        then some (h.set i (.cells (setFrom cs o v.cells) t' m)) else none
    | _ => none
  | _, _ => none

def aMake (E : Env) (h : AH) (t : TypeId) (l c : AV) : Option (AV × AH) :=
  match E.ty t, asN l, asN c with
  | some ti, some n, some k =>
    match ti.und with
    | .slice e => match E.ty e with
      | some ei => bif Nat.ble n k && (Nat.ble (ei.bytes * k) 281474976710656 && Nat.ble k 9223372036854775807) then some (.sl h.next 0 n k false, h.push (.cells (repL ei.zero.cells k) e .own)) else none
      | none => none
    | _ => none
  | _, _, _ => none

/-- append, both operands and the element type's row known. -/
def aAppend (h : AH) (e : TypeId) (ei : TI) (s : AV) (n : Nat) (news : List AV) : Option (AV × AH) :=
  bif Nat.beq n 0 then (match s with | .nils => some (s, h) | .emp => some (s, h) | .sl _ _ _ _ _ => some (s, h) | _ => none) else
  match s with
  | .nils => bif Nat.ble (n * ei.bytes) 140737488355328 then some (.sl h.next 0 n 0 true, h.push (.cells news e .loose)) else none
  | .sl i o len c false =>
    bif Nat.ble (len + n) c then
      (match h.get i with
      | .cells cs t m => bif decide (m ≠ .ro) && (news.all AV.atom && Nat.ble (o + len * ei.size + news.length) cs.length) then some (.sl i o (len + n) c false, h.set i (.cells (setFrom cs (o + len * ei.size) news) t m)) else none
      | _ => none)
    else
      (match getCells h (len * ei.size) s with
      | some olds => bif Nat.ble ((len + n) * ei.bytes) 140737488355328 then some (.sl h.next 0 (len + n) 0 true, h.push (.cells (olds ++ news) e .loose)) else none
      | none => none)
  | .sl i 0 len _ true =>
    match h.get i with
    | .cells cs t .loose => bif Nat.beq cs.length (len * ei.size) && (news.all AV.atom && Nat.ble ((len + n) * ei.bytes) 140737488355328) && decide (t = e)
        then some (.sl h.next 0 (len + n) 0 true, (h.set i .dead).push (.cells (cs ++ news) e .loose)) else none
    | _ => none
  | _ => none

/-- What is appended: how many elements, their cells. -/
def newsOf (h : AH) (s : Nat) : AV → Option (Nat × List AV)
  | .nils => some (0, [])
  | .emp => some (0, [])
  | .sl i o n c l => match getCells h (n * s) (.sl i o n c l) with
    | some cs => some (n, cs)
    | none => none
  | .str b => bif Nat.beq s 1 then some (b.length, b.map fun c => .int .u8 c.toNat) else none
  | _ => none

def aCopy (h : AH) (s : Nat) (d x : AV) : Option (AV × AH) :=
  match newsOf h s x with
  | some (m, _) =>
    match d with
    | .nils => some (.int .i64 0, h)
    | .emp => some (.int .i64 0, h)
    | .sl i o n _ _ =>
      let k := Nat.min m n
      match getCells h (k * s) x with
      | some cs => match h.get i with
        | .cells ds t mo => bif decide (mo ≠ .ro) && (cs.all AV.atom && Nat.ble (o + cs.length) ds.length) then some (.int .i64 k, h.set i (.cells (setFrom ds o cs) t mo)) else none
        | _ => none
      | none => none
    | _ => none
  | none => none

section
variable {P : Program} {E : Env} {σ : Sig} {B : Nat} {W0 : World} {h : AH} {w : World}

theorem repL_length (z : List AV) : ∀ n, (repL z n).length = n * z.length
  | 0 => by simp [repL]
  | n + 1 => by simp [repL, repL_length z n, Nat.succ_mul, Nat.add_comm]

theorem repL_get (z : List AV) : ∀ (n k : Nat), k < n * z.length → (repL z n)[k]? = z[k % z.length]?
  | 0, k, hk => by simp at hk
  | n + 1, k, hk => by
      simp only [repL]
      have hz : 0 < z.length := by
        rcases Nat.eq_zero_or_pos z.length with h0 | h0
        · rw [h0] at hk; simp at hk
        · exact h0
      rw [List.getElem?_append]
      split
      · rename_i hlt; rw [Nat.mod_eq_of_lt hlt]
      · rename_i hge
        rw [repL_get z n (k - z.length) (by rw [Nat.succ_mul] at hk; omega)]
        have : (k - z.length) % z.length = k % z.length := by
          rw [← Nat.mod_eq_sub_mod (by omega)]
        rw [this]

theorem VRL.rep {z : List AV} {u : Array Value} (hz : VRL σ z u.toList) (n : Nat) : VRL σ (repL z n) ((Array.range (n * z.length)).map (u[· % u.size]!)).toList := by
  have hl : u.size = z.length := by have := hz.length; simpa using this
  refine VRL.of_get (by simp [repL_length]) fun k x y hx hy => ?_
  have hk : k < n * z.length := by
    have := (List.getElem?_eq_some_iff.1 hx).1
    rwa [repL_length] at this
  rw [repL_get z n k hk] at hx
  obtain ⟨v, hv, hr⟩ := hz.get hx
  simp [hk] at hy
  rw [hl] at hy
  have hlt := (List.getElem?_eq_some_iff.1 hv).1
  have : u[k % z.length]! = v := by
    rw [Array.getElem?_toList] at hv
    simp [getElem!_def, hv]
  rw [this] at hy
  subst hy
  exact hr

theorem aBuild_sound (ok : EnvT P E) {t : TypeId} {parts : List (Nat × AV)} {ps : Array (Nat × Value)} (hl : parts.length = ps.size)
    (hp : ∀ (k : Nat) (x : Nat × AV) (y : Nat × Value), parts[k]? = some x → ps[k]? = some y → x.1 = y.1 ∧ VR σ x.2 y.2) {y : AV} (he : aBuild E t parts = some y) :
    ∃ v, (Instr.build t ps).run P w = .ok v w ∧ VR σ y v := by
  unfold aBuild at he
  split at he
  case h_2 => cases he
  rename_i ti ht
  have hu := ok.und ht w
  obtain ⟨_, j, hj, hjs, _, z, hz, hgood, _, hzl, hzr⟩ := ok.ty t ti ht
  have hz0 : (zeroValue t).run P w = .ok z w := by simp [zeroValue, typeInfo, hj, hz]
  have hzc := (hzr σ).cells hgood
  have hp' : ∀ (k : Nat) (x : Nat × AV) (y : Nat × Value), parts[k]? = some x → ps.toList[k]? = some y → x.1 = y.1 ∧ VR σ x.2 y.2 := fun k x y h1 h2 => hp k x y h1 (by rw [← Array.getElem?_toList]; exact h2)
  split at he
  · rename_i fs hd
    rw [hd] at hu
    split at he
    case h_2 => cases he
    rename_i cs hcs
    rw [cond_eq_ite] at he
    split at he
    case isFalse => cases he
    rename_i hall
    cases he
    -- the places
    have hpl : ∃ places : Array (Nat × Nat), ((fs.mapM fun f => do pure (f.offset, ← sizeOf f.type) : Sem (Array (Nat × Nat)))).run P w = .ok places w ∧
        ∀ (i : Nat) (f : Field) (fi : TI), fs.toList[i]? = some f → E.ty f.type = some fi → places[i]? = some (f.offset, fi.size) := by
      have gen : ∀ (l : List Field), (l.all fun f => (E.ty f.type).isSome) = true → ∃ pl : List (Nat × Nat), ((l.mapM fun f => do pure (f.offset, ← sizeOf f.type) : Sem (List (Nat × Nat)))).run P w = .ok pl w ∧
          ∀ (i : Nat) (f : Field) (fi : TI), l[i]? = some f → E.ty f.type = some fi → pl[i]? = some (f.offset, fi.size) := by
        intro l
        induction l with
        | nil => intro _; exact ⟨[], by simp, by simp⟩
        | cons f l ih =>
          intro hall
          simp only [List.all_cons, Bool.and_eq_true] at hall
          obtain ⟨pl, h1, h2⟩ := ih hall.2
          obtain ⟨fi, hfi⟩ := Option.isSome_iff_exists.1 hall.1
          refine ⟨(f.offset, fi.size) :: pl, ?_, fun i g gi hg hgi => ?_⟩
          · simp only [List.mapM_cons, Sem.run_bind, ok.sizeOf hfi w, Result.andThen_ok, Sem.run_pure]
            rw [h1]
            rfl
          · cases i with
            | zero => simp at hg; subst hg; rw [hfi] at hgi; cases hgi; simp
            | succ i => simp at hg ⊢; exact h2 i g gi hg hgi
      obtain ⟨pl, h1, h2⟩ := gen fs.toList hall
      refine ⟨pl.toArray, ?_, fun i f fi hf hfi => by simpa using h2 i f fi hf hfi⟩
      rw [Array.mapM_eq_mapM_toList]
      simp only [Sem.run_map, h1, Result.andThen_ok]
    obtain ⟨places, hrun, hplaces⟩ := hpl
    obtain ⟨c', hc', hr⟩ := aFill_sound (pl' := (places[·]?)) (fun i x hx => by
      split at hx
      · rename_i f hf
        split at hx
        · rename_i fi hfi
          cases hx
          exact hplaces i f fi hf hfi
        · cases hx
      · cases hx) parts ps.toList _ _ cs hzc (by simpa using hl) hp' hcs
    refine ⟨.agg c', ?_, by simp only [VR]; exact ⟨c', rfl, hr⟩⟩
    unfold Instr.build
    simp only [Sem.run_bind, hz0, Result.andThen_ok, hu, hrun, hc']
    rfl
  · rename_i n e hd
    rw [hd] at hu
    split at he
    case h_2 => cases he
    rename_i ei hei
    split at he
    case h_2 => cases he
    rename_i cs hcs
    cases he
    obtain ⟨c', hc', hr⟩ := aFill_sound (pl' := fun i => some (i * ei.size, ei.size)) (fun i x hx => hx) parts ps.toList _ _ cs hzc (by simpa using hl) hp' hcs
    refine ⟨.agg c', ?_, by simp only [VR]; exact ⟨c', rfl, hr⟩⟩
    unfold Instr.build
    simp only [Sem.run_bind, hz0, Result.andThen_ok, hu, ok.sizeOf hei w, hc']
    rfl
  · cases he

theorem aBuildSlice_sound (ok : EnvT P E) (r : R E.size B W0 σ h w) {t : TypeId} {n : Nat} {parts : List (Nat × AV)} {ps : Array (Nat × Value)} (hl : parts.length = ps.size)
    (hp : ∀ (k : Nat) (x : Nat × AV) (y : Nat × Value), parts[k]? = some x → ps[k]? = some y → x.1 = y.1 ∧ VR σ x.2 y.2) {y : AV} {h' : AH} (he : aBuildSlice E h t n parts = some (y, h')) :
    ∃ v w' τ, (Instr.buildSlice t n ps).run P w = .ok v w' ∧ SE σ τ ∧ R E.size B W0 τ h' w' ∧ VR τ y v := by
  unfold aBuildSlice at he
  split at he
  case h_2 => cases he
  rename_i ti ht
  have hu := ok.und ht w
  split at he
  case h_2 => cases he
  rename_i e hd
  rw [hd] at hu
  split at he
  case h_2 => cases he
  rename_i ei hei
  rw [cond_eq_ite] at he
  split at he
  case isFalse => cases he
  rename_i hle
  have hle := Nat.le_of_ble_eq_true hle
  split at he
  case h_2 => cases he
  rename_i cs hcs
  cases he
  obtain ⟨_, j, hj, hjs, _, z, hz, hgood, _, hzl, hzr⟩ := ok.ty e ei hei
  have hz0 : (zeroValue e).run P w = .ok z w := by simp [zeroValue, typeInfo, hj, hz]
  have hzc := (hzr σ).cells hgood
  have hp' : ∀ (k : Nat) (x : Nat × AV) (y : Nat × Value), parts[k]? = some x → ps.toList[k]? = some y → x.1 = y.1 ∧ VR σ x.2 y.2 := fun k x y h1 h2 => hp k x y h1 (by rw [← Array.getElem?_toList]; exact h2)
  have hrep : VRL σ (repL ei.zero.cells n) ((Array.range (n * ei.size)).map (z.cells[· % z.cells.size]!)).toList := by
    have := VRL.rep hzc n
    rwa [hzl] at this
  obtain ⟨c', hc', hr⟩ := aFill_sound (pl' := fun i => some (i * ei.size, ei.size)) (fun i x hx => hx) parts ps.toList _ _ cs hrep (by simpa using hl) hp' hcs
  refine ⟨_, _, _, ?_, σ.se_add _, aNew r (Below.refl _ _) hr e e, by rw [← r.n]; exact VR.new_sl w (Nat.le_refl _)⟩
  have hn : ¬ (n * ei.size > 2 ^ 24) := by omega
  by_cases h0 : n * ei.size = 0
  · have hc2 : Instr.fill (fun i => some (i * ei.size, ei.size)) #[] ps.toList = some c' := by
      rw [← hc', h0]; simp [Array.range_zero']
    simp only [Instr.buildSlice, Sem.run_bind, hu, Result.andThen_ok, ok.sizeOf hei w, hn, if_false, h0, if_true, Sem.run_pure]
    simp only [Array.range_zero', Array.map_empty, hc2]
    simp [newRow]
  · simp only [Instr.buildSlice, Sem.run_bind, hu, Result.andThen_ok, ok.sizeOf hei w, hn, if_false, h0, Sem.run_pure, hz0, hc']
    simp [newRow]

theorem aStore_sound (ok : EnvT P E) (r : R E.size B W0 σ h w) {t : TypeId} {p v : AV} {a b : Value} (ha : VR σ p a) (hb : VR σ v b) {h' : AH} (he : aStore E h t p v = some h') :
    ∃ w', (Instr.storeAt t a b).run P w = .ok () w' ∧ R E.size B W0 σ h' w' := by
  unfold aStore at he
  split at he
  case h_2 => cases he
  rename_i i o ti ht
  split at he
  case h_2 => cases he
  rename_i cs t' m hg
  rw [cond_eq_ite] at he
  split at he
  case isFalse => cases he
  rename_i hc
  simp only [Bool.and_eq_true, decide_eq_true_eq] at hc
  obtain ⟨hgood, hlen, hall, hm, hle⟩ := hc
  have hlen := Nat.eq_of_beq_eq_true hlen
  have hle := Nat.le_of_ble_eq_true hle
  cases he
  simp only [VR] at ha
  obtain ⟨hi, rfl⟩ := ha
  have hcells := hb.cells hgood
  obtain ⟨w', hs, r'⟩ := R.storeL (P := P) v.cells b.cells.toList 0 cs h w r hi hg hm (o := o) (by omega) hcells (fun x hx => List.all_eq_true.1 hall x hx)
  refine ⟨w', ?_, r'⟩
  have hsz : b.cells.size = ti.size := by have := hcells.length; simp at this; omega
  simp [Instr.storeAt, Instr.sureAddr, storeVar, ok.sizeOf ht w, hsz, hs]

theorem aMake_sound (ok : EnvT P E) (r : R E.size B W0 σ h w) {t : TypeId} {l c : AV} {a b : Value} (ha : VR σ l a) (hb : VR σ c b) {y : AV} {h' : AH} (he : aMake E h t l c = some (y, h')) :
    ∃ v w' τ, (Instr.makeSlice t a b).run P w = .ok v w' ∧ SE σ τ ∧ R E.size B W0 τ h' w' ∧ VR τ y v := by
  unfold aMake at he
  split at he
  case h_2 => cases he
  rename_i ti n k ht hn hk
  obtain ⟨k1, rfl⟩ := asN_sound ha hn
  obtain ⟨k2, rfl⟩ := asN_sound hb hk
  split at he
  case h_2 => cases he
  rename_i e hd
  split at he
  case h_2 => cases he
  rename_i ei hei
  rw [cond_eq_ite] at he
  split at he
  case isFalse => cases he
  rename_i hc
  simp only [Bool.and_eq_true] at hc
  obtain ⟨h1, h2, h3⟩ := hc
  have h1 := Nat.le_of_ble_eq_true h1
  have h2 := Nat.le_of_ble_eq_true h2
  have h3 := Nat.le_of_ble_eq_true h3
  cases he
  obtain ⟨hut, _⟩ := ok.ty t ti ht
  rw [hd] at hut
  obtain ⟨_, j, hj, hjs, hjb, z, hz, hgood, _, hzl, hzr⟩ := ok.ty e ei hei
  have hzc := (hzr σ).cells hgood
  have hrep : VRL σ (repL ei.zero.cells k) (madeCells z.cells (k * j.size)).toList := by
    have := VRL.rep hzc k
    rw [hzl, ← hjs] at this
    exact this
  have hbytes : (j.bytes : Int) * (k : Int) ≤ 281474976710656 := by
    rw [hjb]
    have : ((ei.bytes * k : Nat) : Int) ≤ 281474976710656 := by omega
    rwa [Int.natCast_mul] at this
  have hrun := run_make w t e j z hut hj hz k1 k2 n k (by omega) (by omega) hbytes (by omega)
  simp only [Int.toNat_natCast] at hrun
  exact ⟨_, _, _, hrun, σ.se_add _, aNew r (Below.refl _ _) hrep e e, by rw [← r.n]; exact VR.new_sl w h1⟩
end
end Go.Proofs.Yteblojfcalgoeaa

/- The abstract machine: append, copy, texts as bytes. Conditions: none. -/
namespace Go.Proofs.Yteblojfcalgoeaa
open Go Go.RowKit

section
variable {P : Program} {E : Env} {σ : Sig} {B : Nat} {W0 : World} {h : AH} {w : World}

def notInt (d : TypeDesc) : Prop := (∃ e, d = .slice e) ∨ d = .string

theorem run_append_in {sT xT ty e : TypeId} {d : TypeDesc} (hs : P.underlying sT = some (.slice e)) (hx : P.underlying xT = some d) (hd : notInt d) {j : TypeInfo} (hj : P.info? e = some j)
    {a : Addr} {len cap n : Nat} {x : Value} (hn : (Builtin.lenOf x).run P w = .ok n w) {news : Array Value} (hnews : (Builtin.firstCells j.size n x).run P w = .ok news w) (hfit : len + n ≤ cap)
    {w' : World} (hst : (storeCells (a.add (len * j.size)) news.toList).run P w = .ok () w') :
    (Builtin.append_ #[sT, xT] ty #[.slice (some a) len cap, x]).run P w = .ok (.slice (some a) (len + n) cap) w' := by
  rcases hd with ⟨e', rfl⟩ | rfl <;> simp [Builtin.append_, run_underlying hs, run_underlying hx, sizeOf, typeInfo, hj, hn, hfit, hnews, hst]

theorem run_append_out {sT xT ty e : TypeId} {d : TypeDesc} (hs : P.underlying sT = some (.slice e)) (hx : P.underlying xT = some d) (hd : notInt d) {j : TypeInfo} (hj : P.info? e = some j) {z : Value} (hz : j.zero = some z)
    {s : Value} {a : Option Addr} {len cap n : Nat} (es : s = .slice a len cap) {x : Value} (hn : (Builtin.lenOf x).run P w = .ok n w) {olds news : Array Value} (hnews : (Builtin.firstCells j.size n x).run P w.drew = .ok news w.drew)
    (holds : (Builtin.firstCells j.size len s).run P w.drew = .ok olds w.drew) (hfit : cap < len + n) (hb : j.bytes ≠ 0) (hby : (len + n) * j.bytes ≤ 140737488355328) :
    (Builtin.append_ #[sT, xT] ty #[s, x]).run P w =
      .ok (.slice (some ⟨w.heap.size, 0, none⟩) (len + n) (grownCap w (len + n) cap e)) (w.drew.alloc (.cells (olds ++ news ++ Builtin.zeroCells z.cells (grownCap w (len + n) cap e - (len + n))) e)) := by
  subst es
  have hnf : ¬ (len + n ≤ cap) := by omega
  have hgr := growslice_fits (need := len + n) (old := cap) (bytes := j.bytes) hfit hby
  have h48 : ¬ (281474976710656 < Builtin.nextslicecap (len + n) cap * j.bytes) := by omega
  rcases hd with ⟨e', rfl⟩ | rfl <;> simp [Builtin.append_, run_underlying hs, run_underlying hx, sizeOf, typeInfo, zeroValue, hj, hz, hn, hnf, hb, h48, Question.forced, hnews, holds, newRow, grownCap]

theorem run_append_none {sT xT ty e : TypeId} {d : TypeDesc} (hs : P.underlying sT = some (.slice e)) (hx : P.underlying xT = some d) (hd : notInt d) {j : TypeInfo} (hj : P.info? e = some j)
    {s : Value} {a : Option Addr} {len cap : Nat} (es : s = .slice a len cap) (hlc : len ≤ cap) {x : Value} (hn : (Builtin.lenOf x).run P w = .ok 0 w) (hnews : (Builtin.firstCells j.size 0 x).run P w = .ok #[] w) :
    (Builtin.append_ #[sT, xT] ty #[s, x]).run P w = .ok s w := by
  subst es
  rcases hd with ⟨e', rfl⟩ | rfl <;> cases a <;> simp [Builtin.append_, run_underlying hs, run_underlying hx, sizeOf, typeInfo, hj, hn, hnews, hlc, storeCells]

/-- What is appended: its length and its cells, in the world as it is and behind a draw. -/
theorem newsOf_sound (r : R E.size B W0 σ h w) {x : AV} {v : Value} (hv : VR σ x v) {s n : Nat} {cs : List AV} (he : newsOf h s x = some (n, cs)) :
    (Builtin.lenOf v).run P w = .ok n w ∧ (∃ us : Array Value, (Builtin.firstCells s n v).run P w = .ok us w ∧ VRL σ cs us.toList) ∧ cs.length = n * s := by
  unfold newsOf at he
  split at he
  · cases he
    simp only [VR] at hv; subst hv
    exact ⟨rfl, ⟨#[], by simp [Builtin.firstCells], by simp [VRL]⟩, by simp⟩
  · cases he
    simp only [VR] at hv; obtain ⟨a, c, rfl⟩ := hv
    exact ⟨rfl, ⟨#[], by simp [Builtin.firstCells, loadCells, loadCellsFrom], by simp [VRL]⟩, by simp⟩
  · rename_i i o n' c l
    split at he
    · rename_i cs' hg
      cases he
      obtain ⟨us, h1, h2⟩ := getCells_sound (P := P) r hv hg
      obtain ⟨_, c', rfl, _⟩ := VR.sl_inv hv
      refine ⟨rfl, ⟨us, h1, h2⟩, ?_⟩
      simp only [getCells] at hg
      split at hg
      · rw [cond_eq_ite] at hg
        split at hg
        · rename_i hb
          have := Nat.le_of_ble_eq_true hb
          cases hg
          simp; omega
        · cases hg
      · cases hg
    · cases he
  · rename_i b
    rw [cond_eq_ite] at he
    split at he
    · rename_i hs
      have := Nat.eq_of_beq_eq_true hs; subst this
      cases he
      simp only [VR] at hv; subst hv
      refine ⟨by simp [Builtin.lenOf, ByteArray.size], ⟨_, rfl, ?_⟩, by simp⟩
      have e : ((ByteArray.mk b.toArray).extract 0 b.length).data.toList = b := by
        simp [extract_str]
      refine VRL.of_get (by simp [e]) fun k x y hx hy => ?_
      simp only [Array.toList_map, e, List.getElem?_map] at hy
      simp only [List.getElem?_map] at hx
      cases hb : b[k]? with
      | none => rw [hb] at hx; cases hx
      | some c =>
        rw [hb] at hx hy
        cases hx; cases hy
        simp only [VR]
    · cases he
  · cases he

theorem R.drew (r : R E.size B W0 σ h w) : R E.size B W0 σ h w.drew := r.world ((Below.refl _ _).drew)

theorem VRL.all_one {cs : List AV} {us : List Value} (h : VRL σ cs us) (ha : ∀ x ∈ cs, x.atom = true) : ∀ u ∈ us, u.oneCell' = true := by
  intro u hu
  obtain ⟨k, hk⟩ := List.mem_iff_getElem?.1 hu
  have hl := h.length
  have hlt := (List.getElem?_eq_some_iff.1 hk).1
  obtain ⟨y, hy, hr⟩ := h.get (List.getElem?_eq_getElem (by omega : k < cs.length))
  rw [hk] at hy; cases hy
  exact (hr.atom (ha _ (List.getElem_mem _))).2

/-- A grown row. -/
theorem pushLoose (r : R E.size B W0 σ h w) {w0 : World} (hb : Below w.heap.size w w0) {cs : List AV} {c : Array Value} (hc : VRL σ cs (c.toList.take cs.length)) (hcl : cs.length ≤ c.size) {e : TypeId} {ei : TI} (hei : E.ty e = some ei) (hs : 0 < ei.size)
    {cap : Nat} (hcap : c.size = cap * ei.size) (hmax : cap ≤ maxLen) :
    R E.size B W0 (σ.add ⟨w0.heap.size, 0, cap⟩) (h.push (.cells cs e .loose)) (w0.alloc (.cells c e)) := by
  refine r.push (hb.alloc hb.size _) hb.size ?_
  have hse := σ.se_add ⟨w0.heap.size, 0, cap⟩
  refine ⟨c, e, (0, 0), by rw [σ.at_add]; exact heap_alloc_new w0 _, fun k v hv => ?_, fun _ => ⟨by rw [σ.at_add]; exact Nat.le_trans r.le hb.size, by rw [σ.at_add], .inl rfl, fun h => (by cases h), fun _ => ⟨ei.size, by simp [Env.size, hei], hs, by rw [σ.at_add]; exact hcap, by rw [σ.at_add]; exact hmax, hcl⟩⟩⟩
  obtain ⟨u, hu, hr⟩ := hc.get hv
  have hk := (List.getElem?_eq_some_iff.1 hv).1
  rw [List.getElem?_take, if_pos hk, Array.getElem?_toList] at hu
  exact ⟨u, by rw [σ.at_add]; simpa using hu, VR.mono hse _ _ hr⟩

theorem VR.new_loose (w0 : World) {n cap : Nat} (hn : n ≤ cap) : VR (σ.add ⟨w0.heap.size, 0, cap⟩) (.sl σ.n 0 n 0 true) (.slice (some ⟨w0.heap.size, 0, none⟩) n cap) := by
  simp only [VR, if_true]
  exact ⟨by simp [Sig.add], cap, by simp [Sig.addr, σ.at_add], hn, fun _ => by rw [σ.at_add]⟩

theorem getCells_len {x : AV} {m : Nat} {cs : List AV} (he : getCells h m x = some cs) : cs.length = m := by
  unfold getCells at he
  split at he
  · split at he
    · rw [cond_eq_ite] at he
      split at he
      · rename_i hb
        have := Nat.le_of_ble_eq_true hb
        cases he
        simp; omega
      · cases he
    · cases he
  · rw [cond_eq_ite] at he
    split at he
    · rename_i hb; cases he; simpa using (Nat.eq_of_beq_eq_true hb).symm
    · cases he
  · rw [cond_eq_ite] at he
    split at he
    · rename_i hb; cases he; simpa using (Nat.eq_of_beq_eq_true hb).symm
    · cases he
  · cases he

/-- The growing arm: olds and news in a new row. -/
theorem growArm (r : R E.size B W0 σ h w) {e : TypeId} {ei : TI} (hei : E.ty e = some ei) (hs : 0 < ei.size) {z : Value} (hz : z.cells.size = ei.size)
    {len n cap : Nat} {olds news : List AV} {os ns : Array Value} (ho : VRL σ olds os.toList) (hn : VRL σ news ns.toList) (hol : olds.length = len * ei.size) (hnl : news.length = n * ei.size) (hmax : len + n ≤ maxLen) :
    ∃ τ, SE σ τ ∧ R E.size B W0 τ (h.push (.cells (olds ++ news) e .loose)) (w.drew.alloc (.cells (os ++ ns ++ Builtin.zeroCells z.cells (grownCap w (len + n) cap e - (len + n))) e)) ∧
      VR τ (.sl h.next 0 (len + n) 0 true) (.slice (some ⟨w.heap.size, 0, none⟩) (len + n) (grownCap w (len + n) cap e)) := by
  have hge := grownCap_ge w (len + n) cap e
  have hol' : os.size = olds.length := by have := ho.length; simpa using this
  have hnl' : ns.size = news.length := by have := hn.length; simpa using this
  have hcs : (os ++ ns ++ Builtin.zeroCells z.cells (grownCap w (len + n) cap e - (len + n))).size = grownCap w (len + n) cap e * ei.size := by
    simp only [Array.size_append, hol', hnl', hol, hnl, size_zeroCells, hz]
    rw [← Nat.add_mul, ← Nat.add_mul]
    congr 1
    omega
  have htake : (os ++ ns ++ Builtin.zeroCells z.cells (grownCap w (len + n) cap e - (len + n))).toList.take (olds ++ news).length = os.toList ++ ns.toList := by
    simp only [Array.toList_append, List.length_append]
    rw [List.take_append_of_le_length (by simp [hol', hnl']), List.take_of_length_le (by simp [hol', hnl'])]
  refine ⟨_, σ.se_add _, pushLoose r ((Below.refl _ _).drew) (by rw [htake]; exact ho.append hn) ?_ hei hs hcs (grownCap_le_maxLen w _ _ _ hmax), by rw [← r.n]; exact VR.new_loose w hge⟩
  simp only [Array.size_append, List.length_append, hol', hnl']
  omega

/-- The same block under a new name; the old one is dead. -/
theorem R.move (r : R E.size B W0 σ h w) {i : Nat} (hi : i < σ.n) {X cs' : List AV} {t : TypeId} (hg : h.get i = .cells X t .loose) (hp : ∀ (k : Nat) (v : AV), cs'[k]? = some v → X[k]? = some v) (hl : cs'.length ≤ X.length) :
    R E.size B W0 (σ.add (σ.at_ i)) ((h.set i .dead).push (.cells cs' t .loose)) w ∧ True := by
  refine ⟨⟨r.below, r.hB, by simp [Sig.add, r.n], fun j hj => ?_, fun a b ha hb hne hw hlv => ?_⟩, trivial⟩
  · rw [AH.get_push]
    split
    · rename_i e
      subst e
      simp only [AH.next_set]
      have hob := r.obj i (by rw [← r.n]; exact hi)
      rw [hg] at hob
      obtain ⟨c, e, fr, hb, hc, hm⟩ := hob.row
      rw [← r.n]
      refine ⟨c, e, fr, by rw [σ.at_add]; exact hb, fun k v hv => ?_, fun hne => ?_⟩
      · obtain ⟨u, hu, hr⟩ := hc k v (hp k v hv)
        exact ⟨u, by rw [σ.at_add]; exact hu, VR.mono (σ.se_add _) _ _ hr⟩
      · rw [σ.at_add]
        obtain ⟨a1, a2, a3, _, a5⟩ := hm hne
        refine ⟨a1, a2, a3, fun h => (by cases h), fun h => ?_⟩
        obtain ⟨s, b1, b2, b3, b4, b5⟩ := a5 h
        exact ⟨s, b1, b2, b3, b4, by omega⟩
    · rename_i e
      simp at hj e
      have hj' : j < h.next := by omega
      rw [AH.get_set]
      split
      · trivial
      · exact (r.obj j hj').keep (by rw [r.n]; exact hj') (σ.se_add _) fun _ => rfl
  · rw [AH.get_push] at hw hlv
    simp at ha hb
    have at1 : ∀ k, k < h.next → (σ.add (σ.at_ i)).at_ k = σ.at_ k := fun k hk => (σ.se_add _).at_ k (by rw [r.n]; exact hk)
    have at2 : (σ.add (σ.at_ i)).at_ h.next = σ.at_ i := by rw [← r.n]; exact σ.at_add _
    have hwi : (h.get i).wr := by rw [hg]; simp [AO.wr]
    have hii : i < h.next := by rw [← r.n]; exact hi
    have other : ∀ k, k < h.next → (if k = (h.set i .dead).next then AO.cells cs' t .loose else (h.set i .dead).get k).live → k ≠ i ∧ (h.get k).live := fun k hk hl => by
      rw [if_neg (show ¬ k = (h.set i .dead).next from by simp; omega), AH.get_set] at hl
      split at hl
      · exact hl.elim
      · rename_i hki; exact ⟨hki, hl⟩
    by_cases ea : a = h.next
    · subst ea
      have hb' : b < h.next := by omega
      obtain ⟨h1, h2⟩ := other b hb' hlv
      rw [at2, at1 b hb']
      exact r.sep i b hii hb' (fun e => h1 e.symm) hwi h2
    · have ha' : a < h.next := by omega
      obtain ⟨h1, h2⟩ := other a ha' hw.live
      rw [if_neg (show ¬ a = (h.set i .dead).next from ea), AH.get_set, if_neg h1] at hw
      by_cases eb : b = h.next
      · subst eb
        rw [at2, at1 a ha']
        exact r.sep a i ha' hii h1 hw hwi.live
      · have hb' : b < h.next := by omega
        obtain ⟨h3, h4⟩ := other b hb' hlv
        rw [at1 a ha', at1 b hb']
        exact r.sep a b ha' hb' hne hw h4

theorem setFrom_eq : ∀ (vs cs : List AV) (o : Nat), o + vs.length ≤ cs.length → setFrom cs o vs = cs.take o ++ vs ++ cs.drop (o + vs.length)
  | [], cs, o, _ => by simp [setFrom]
  | v :: vs, cs, o, h => by
      simp only [List.length_cons] at h
      simp only [setFrom]
      rw [setFrom_eq vs _ _ (by simp; omega)]
      have h1 : (cs.set o v).take (o + 1) = cs.take o ++ [v] := by
        rw [List.take_set, List.take_succ_eq_append_getElem (by omega)]
        rw [List.set_append_right _ _ (by simp; omega)]
        simp [Nat.min_eq_left (by omega : o ≤ cs.length)]
      have h2 : (cs.set o v).drop (o + 1 + vs.length) = cs.drop (o + (v :: vs).length) := by
        rw [List.drop_set_of_lt (by omega)]
        congr 1
        simp; omega
      rw [h1, h2]
      simp

theorem setFrom_app (cs sp news : List AV) (h : cs.length + news.length ≤ (cs ++ sp).length) (k : Nat) (v : AV) (hv : (cs ++ news)[k]? = some v) : (setFrom (cs ++ sp) cs.length news)[k]? = some v := by
  rw [setFrom_eq _ _ _ h]
  have hk := (List.getElem?_eq_some_iff.1 hv).1
  rw [List.take_left, List.getElem?_append_left (by simpa using hk)]
  exact hv

theorem VRL.atoms {xs : List AV} (h : xs.all AV.atom = true) : ∀ x ∈ xs, x.atom = true := fun x hx => List.all_eq_true.1 h x hx

theorem aAppend_sound (ok : EnvT P E) (r : R E.size B W0 σ h w) {sT xT ty e : TypeId} {d : TypeDesc} (hsT : P.underlying sT = some (.slice e)) (hxT : P.underlying xT = some d) (hd : notInt d) {ei : TI} (hei : E.ty e = some ei) (hsz : 0 < ei.size) (hby : 0 < ei.bytes)
    {s x y : AV} {a b : Value} (ha : VR σ s a) (hb : VR σ x b) {n : Nat} {news : List AV} (hnews : newsOf h ei.size x = some (n, news)) {h' : AH} (he : aAppend h e ei s n news = some (y, h')) :
    ∃ v w' τ, (Builtin.append_ #[sT, xT] ty #[a, b]).run P w = .ok v w' ∧ SE σ τ ∧ R E.size B W0 τ h' w' ∧ VR τ y v := by
  obtain ⟨_, j, hj, hjs, hjb, z, hz, hgood, hatoms, hzl, hzr⟩ := ok.ty e ei hei
  have hzc : z.cells.size = ei.size := by have := ((hzr σ).cells hgood).length; simp at this; omega
  obtain ⟨hlen, ⟨us, hfc, hur⟩, hnl⟩ := newsOf_sound (P := P) r hb hnews
  obtain ⟨_, ⟨us', hfc', hur'⟩, _⟩ := newsOf_sound (P := P) r.drew hb hnews
  rw [← hjs] at hfc hfc'
  unfold aAppend at he
  rw [cond_eq_ite] at he
  split at he
  · rename_i h0
    have := Nat.eq_of_beq_eq_true h0; subst this
    have hus : us = #[] := by
      have := hur.length
      rw [hnl] at this
      simpa using this
    subst hus
    have hform : ∃ ao len cap, a = .slice ao len cap ∧ len ≤ cap := by
      split at he
      · simp only [VR] at ha; subst ha; exact ⟨_, _, _, rfl, Nat.le_refl _⟩
      · simp only [VR] at ha; obtain ⟨ad, c, rfl⟩ := ha; exact ⟨_, _, _, rfl, Nat.zero_le _⟩
      · obtain ⟨_, c', rfl, hle, _⟩ := VR.sl_inv ha; exact ⟨_, _, _, rfl, hle⟩
      · cases he
    obtain ⟨ao, len, cap, rfl, hlc⟩ := hform
    have hres : s = y ∧ h = h' := by
      split at he <;> first | (cases he; exact ⟨rfl, rfl⟩) | cases he
    obtain ⟨rfl, rfl⟩ := hres
    exact ⟨_, w, σ, run_append_none hsT hxT hd hj rfl hlc hlen hfc, SE.refl _, r, ha⟩
  · rename_i h0
    have hn0 : n ≠ 0 := fun e => h0 (by rw [e]; rfl)
    split at he
    · -- nil
      rw [cond_eq_ite] at he
      split at he
      case isFalse => cases he
      rename_i hbd
      have hbd := Nat.le_of_ble_eq_true hbd
      cases he
      simp only [VR] at ha; subst ha
      have hmax : n ≤ maxLen := by
        have : n * 1 ≤ n * ei.bytes := Nat.mul_le_mul_left n hby
        unfold maxLen; omega
      obtain ⟨τ, h1, h2, h3⟩ := growArm r hei hsz hzc (len := 0) (n := n) (cap := 0) (olds := []) (os := #[]) (by simp [VRL]) hur' (by simp) hnl (by omega)
      have hrun := run_append_out (P := P) (w := w) (ty := ty) hsT hxT hd hj hz (s := .slice none 0 0) (a := none) (len := 0) (cap := 0) (olds := #[]) rfl hlen hfc' (by simp [Builtin.firstCells]) (by omega) (by omega) (by rw [hjb]; simpa using hbd)
      simp only [Nat.zero_add, List.nil_append] at hrun h2 h3
      exact ⟨_, _, τ, hrun, h1, h2, h3⟩
    · -- rigid
      rename_i i o len c
      obtain ⟨hi, c', rfl, hlc, hc', _⟩ := VR.sl_inv ha
      have := hc' rfl; subst this
      rw [cond_eq_ite] at he
      split at he
      · rename_i hfit
        have hfit := Nat.le_of_ble_eq_true hfit
        split at he
        case h_2 => cases he
        rename_i cs t m hg
        rw [cond_eq_ite] at he
        split at he
        case isFalse => cases he
        rename_i hcond
        simp only [Bool.and_eq_true, decide_eq_true_eq] at hcond
        obtain ⟨hm, hall, hle⟩ := hcond
        have hle := Nat.le_of_ble_eq_true hle
        cases he
        obtain ⟨w', hst, r'⟩ := R.storeL (P := P) news us.toList 0 cs h w r hi hg hm (o := o + len * ei.size) (by omega) hur (VRL.atoms hall)
        refine ⟨_, w', σ, run_append_in hsT hxT hd hj hlen hfc hfit (by rw [hjs, addr_add]; exact hst), SE.refl _, r', ?_⟩
        simp only [VR, Bool.false_eq_true, if_false]
        exact ⟨hi, trivial, hfit⟩
      · rename_i hfit
        have hfit : c' < len + n := by
          rcases Nat.lt_or_ge c' (len + n) with h1 | h1
          · exact h1
          · exact absurd (Nat.ble_eq_true_of_le h1) hfit
        split at he
        case h_2 => cases he
        rename_i olds hol
        rw [cond_eq_ite] at he
        split at he
        case isFalse => cases he
        rename_i hbd
        have hbd := Nat.le_of_ble_eq_true hbd
        cases he
        obtain ⟨os, hfo, hor⟩ := getCells_sound (P := P) r.drew ha hol
        have hmax : len + n ≤ maxLen := by
          have : (len + n) * 1 ≤ (len + n) * ei.bytes := Nat.mul_le_mul_left (len + n) hby
          unfold maxLen; omega
        obtain ⟨τ, h1, h2, h3⟩ := growArm r hei hsz hzc (len := len) (n := n) (cap := c') hor hur' (getCells_len hol) hnl hmax
        exact ⟨_, _, τ, run_append_out hsT hxT hd hj hz rfl hlen hfc' (by rw [hjs]; exact hfo) hfit (by omega) (by rw [hjb]; exact hbd), h1, h2, h3⟩
    · -- loose
      rename_i i len cx
      obtain ⟨hi, c', rfl, hlc, _, hc0⟩ := VR.sl_inv ha
      have hcap := hc0 rfl rfl
      split at he
      case h_2 => cases he
      rename_i cs t hg
      rw [cond_eq_ite] at he
      split at he
      case isFalse => cases he
      rename_i hcond
      simp only [Bool.and_eq_true, decide_eq_true_eq] at hcond
      obtain ⟨⟨hcl, hall, hbd⟩, rfl⟩ := hcond
      have hcl := Nat.eq_of_beq_eq_true hcl
      have hbd := Nat.le_of_ble_eq_true hbd
      cases he
      have hob := r.obj i (by rw [← r.n]; exact hi)
      rw [hg] at hob
      obtain ⟨c, e', fr, hbk, hcc, hw⟩ := hob.row
      obtain ⟨hB, ho0, hfz, _, hlo⟩ := hw (by simp)
      obtain ⟨sz, hsz', hs0, hcsz, hcm, hcle⟩ := hlo rfl
      have hszz : sz = ei.size := by simp [Env.size, hei] at hsz'; exact hsz'.symm
      subst hszz
      have hmax : len + n ≤ maxLen := by
        have : (len + n) * 1 ≤ (len + n) * ei.bytes := Nat.mul_le_mul_left (len + n) hby
        unfold maxLen; omega
      by_cases hfit : len + n ≤ c'
      · -- in place: the same block, a new name for it
        have hext : R E.size B W0 σ (h.set i (.cells (cs ++ List.replicate (c.size - cs.length) .bad) t .loose)) w := by
          refine r.set (by rw [← r.n]; exact hi) (by rw [hg]; simp [AO.wr]) rfl rfl rfl rfl (fun _ _ => rfl) hB ⟨c, e', fr, hbk, fun k v hv => ?_, fun _ => ⟨hB, ho0, hfz, fun h => (by cases h), fun _ => ⟨_, hsz', hs0, hcsz, hcm, by simp; omega⟩⟩⟩
          rw [List.getElem?_append] at hv
          split at hv
          · exact hcc k v hv
          · rename_i hk
            have hk2 := (List.getElem?_eq_some_iff.1 hv).1
            have hk3 := (List.getElem?_eq_some_iff.1 hv).2
            simp at hk2 hk3
            subst hk3
            have hkc : k < c.size := by omega
            exact ⟨c[k], by rw [ho0, Nat.zero_add]; exact Array.getElem?_eq_getElem hkc, by simp only [VR]⟩
        have hroom : len * ei.size + news.length ≤ (cs ++ List.replicate (c.size - cs.length) AV.bad).length := by
          simp only [List.length_append, List.length_replicate, hnl, ← Nat.add_mul]
          have : (len + n) * ei.size ≤ c' * ei.size := Nat.mul_le_mul_right _ hfit
          rw [hcap] at this
          omega
        obtain ⟨w', hst, r2⟩ := R.storeL (P := P) news us.toList 0 _ _ w hext hi (AH.get_set_same _ _ _) (by simp) (o := len * ei.size) (by simpa using hroom) hur (VRL.atoms hall)
        rw [AH.set_set, Nat.add_zero] at r2
        have hpre : ∀ (k : Nat) (v : AV), (cs ++ news)[k]? = some v → (setFrom (cs ++ List.replicate (c.size - cs.length) AV.bad) (len * ei.size) news)[k]? = some v := by
          intro k v hv
          rw [← hcl]
          rw [← hcl] at hroom
          exact setFrom_app cs _ news hroom k v hv
        obtain ⟨r3, hv3⟩ := r2.move (cs' := cs ++ news) hi (AH.get_set_same _ _ _) hpre (by rw [setFrom_length]; simp only [List.length_append, List.length_replicate] at hroom ⊢; omega)
        rw [AH.set_set] at r3
        refine ⟨_, w', _, run_append_in hsT hxT hd hj hlen hfc hfit (by rw [hjs, addr_add, Nat.zero_add]; exact hst), σ.se_add _, r3, ?_⟩
        simp only [VR, if_true]
        refine ⟨by simp [Sig.add, ← r.n], c', ?_, hfit, fun _ => ?_⟩
        · rw [← r.n]; simp [Sig.addr, σ.at_add]
        · rw [← r.n, σ.at_add]; exact hcap
      · -- a new row
        have hol : getCells h (len * ei.size) (.sl i 0 len cx true) = some cs := by
          simp only [getCells, hg, Nat.zero_add]
          rw [cond_eq_ite, if_pos (Nat.ble_eq_true_of_le (by omega))]
          simp [← hcl]
        obtain ⟨os, hfo, hor⟩ := getCells_sound (P := P) r.drew ha hol
        obtain ⟨τ, h1, h2, h3⟩ := growArm (r.kill i) hei hsz hzc (len := len) (n := n) (cap := c') hor hur' (getCells_len hol) hnl hmax
        exact ⟨_, _, τ, run_append_out hsT hxT hd hj hz rfl hlen hfc' (by rw [hjs]; exact hfo) (by omega) (by omega) (by rw [hjb]; exact hbd), h1, h2, h3⟩
    · cases he
end
end Go.Proofs.Yteblojfcalgoeaa

/- The abstract machine: copy, texts as bytes, maps; all heap operations as one function, and that it is sound. Conditions: none. -/
namespace Go.Proofs.Yteblojfcalgoeaa
open Go Go.RowKit

def idxK (k : List UInt8) : List (List UInt8 × AV) → Nat → Option Nat
  | [], _ => none
  | (k', _) :: r, n => bif k == k' then some n else idxK k r (n + 1)

def insK (k : List UInt8) (v : AV) (es : List (List UInt8 × AV)) : List (List UInt8 × AV) :=
  match idxK k es 0 with
  | some j => es.set j (k, v)
  | none => es ++ [(k, v)]

def delK (k : List UInt8) (es : List (List UInt8 × AV)) : List (List UInt8 × AV) :=
  match idxK k es 0 with
  | some j => es.eraseIdx j
  | none => es

def isStr (E : Env) (t : TypeId) : Bool :=
  match E.ty t with
  | some i => match i.und with
    | .string => true
    | _ => false
  | none => false

/-- The key type of a map type, where it is a text's. -/
def strMap (E : Env) (t : TypeId) : Bool :=
  match E.ty t with
  | some i => match i.und with
    | .map k _ => isStr E k
    | _ => false
  | none => false

def eBuiltin (E : Env) (h : AH) (b : Builtin) (vs : List AV) (ts : List TypeId) : Option (AV × AH) :=
  match b, vs, ts with
  | .append, [s, x], [sT, xT] => match E.ty sT, E.ty xT with
    | some si, some xi => match si.und with
      | .slice e => match E.ty e with
        | some ei => bif Nat.blt 0 ei.size && Nat.blt 0 ei.bytes then
            (match xi.und with
            | .slice _ | .string => match newsOf h ei.size x with
              | some (n, news) => aAppend h e ei s n news
              | none => none
            | _ => none) else none
        | none => none
      | _ => none
    | _, _ => none
  | .copy, [d, x], [dT, _] => match E.ty dT with
    | some di => match di.und with
      | .slice e => match E.ty e with
        | some ei => aCopy h ei.size d x
        | none => none
      | _ => none
    | none => none
  | .delete, [m, k], [mT, _] => match m, k with
    | .map i, .str s => bif strMap E mT then
        (match h.get i with
        | .map es => some (.tup [], h.set i (.map (delK s es)))
        | _ => none) else none
    | _, _ => none
  | _, _, _ => none

def eOp (E : Env) (fr : Nat → AV) (h : AH) (op : Op) : Option (AV × AH) :=
  match op with
  | .alloc t => match E.ty t with
    | some ti => some (.ptr h.next 0, h.push (.cells ti.zero.cells t .own))
    | none => none
  | .box t x => let v := ev fr x; bif v.good && v.cells.all AV.atom then some (.ptr h.next 0, h.push (.cells v.cells t .own)) else none
  | .build t parts => match aBuild E t (parts.toList.map fun p => (p.1, ev fr p.2)) with
    | some v => some (v, h)
    | none => none
  | .buildSlice t n parts => aBuildSlice E h t n (parts.toList.map fun p => (p.1, ev fr p.2))
  | .store t p v => match aStore E h t (ev fr p) (ev fr v) with
    | some h' => some (.bad, h')
    | none => none
  | .makeSlice t l c => aMake E h t (ev fr l) (ev fr c)
  | .makeMap _ none => some (.map h.next, h.push (.map []))
  | .mapUpdate t m k v => match ev fr m, ev fr k with
    | .map i, .str s => bif strMap E t then
        (match h.get i with
        | .map es => some (.bad, h.set i (.map (insK s (ev fr v) es)))
        | _ => none) else none
    | _, _ => none
  | .convert s d x => match E.ty s, E.ty d, ev fr x with
    | some _, some di, .str b => match di.und with
      | .slice e => match E.ty e with
        | some ei => match ei.und with
          | .int .u8 => bif Nat.beq ei.size 1 && Nat.ble b.length maxLen then some (.sl h.next 0 b.length 0 true, h.push (.cells (b.map fun c => .int .u8 c.toNat) e .loose)) else none
          | _ => none
        | none => none
      | _ => none
    | some si, some di, .sl i o n c l => match si.und, di.und with
      | .slice _, .slice e => match E.ty e with
        | some ei => match ei.und, h.get i with
          | .int .u8, .cells _ _ m => bif decide (s = d) && decide (m ≠ .ro) then some (.sl i o n c l, h) else none
          | _, _ => none
        | none => none
      | _, _ => none
    | _, _, _ => none
  | .call c => match c.callee with
    | .builtin b => eBuiltin E h b (c.args.toList.map (ev fr)) c.argTypes.toList
    | _ => none
  | _ => none

section
variable {P : Program} {E : Env} {σ : Sig} {B : Nat} {W0 : World} {h : AH} {w : World}

theorem aCopy_sound (r : R E.size B W0 σ h w) {dT sT ty e : TypeId} (hdT : P.underlying dT = some (.slice e)) {s : Nat} (hs : ∀ w, (sizeOf e).run P w = .ok s w)
    {d x y : AV} {a b : Value} (ha : VR σ d a) (hb : VR σ x b) {h' : AH} (he : aCopy h s d x = some (y, h')) :
    ∃ v w', (Builtin.copy_ #[dT, sT] ty #[a, b]).run P w = .ok v w' ∧ R E.size B W0 σ h' w' ∧ VR σ y v := by
  unfold aCopy at he
  split at he
  case h_2 => cases he
  rename_i m news hnews
  obtain ⟨hlen, ⟨us, hfc, hur⟩, hnl⟩ := newsOf_sound (P := P) r hb hnews
  have hfc0 : ∃ us : Array Value, (Builtin.firstCells s 0 b).run P w = .ok us w := by
    cases x <;> simp only [newsOf] at hnews <;> try (cases hnews; done)
    case str b' => simp only [VR] at hb; subst hb; exact ⟨_, rfl⟩
    case nils => simp only [VR] at hb; subst hb; exact ⟨_, rfl⟩
    case emp => simp only [VR] at hb; obtain ⟨ad, c, rfl⟩ := hb; exact ⟨#[], by simp [Builtin.firstCells, loadCells, loadCellsFrom]⟩
    case sl => obtain ⟨_, c', rfl, _⟩ := VR.sl_inv hb; exact ⟨#[], by simp [Builtin.firstCells, loadCells, loadCellsFrom]⟩
  split at he
  · cases he
    simp only [VR] at ha; subst ha
    obtain ⟨us0, h0⟩ := hfc0
    exact ⟨.int .i64 0, w, by simp [Builtin.copy_, run_underlying hdT, hlen, hs, h0, goInt, Nat.min_def], r, by simp only [VR]⟩
  · cases he
    simp only [VR] at ha; obtain ⟨ad, c, rfl⟩ := ha
    obtain ⟨us0, h0⟩ := hfc0
    have h0' : (Builtin.firstCells s 0 b).run P w = .ok #[] w := by
      cases x <;> simp only [newsOf] at hnews <;> try (cases hnews; done)
      case str b' => simp only [VR] at hb; subst hb; simp [Builtin.firstCells, extract_str]
      case nils => simp only [VR] at hb; subst hb; rfl
      case emp => simp only [VR] at hb; obtain ⟨ad, c, rfl⟩ := hb; simp [Builtin.firstCells, loadCells, loadCellsFrom]
      case sl => obtain ⟨_, c', rfl, _⟩ := VR.sl_inv hb; simp [Builtin.firstCells, loadCells, loadCellsFrom]
    refine ⟨.int .i64 0, w, ?_, r, by simp only [VR]⟩
    simp [Builtin.copy_, run_underlying hdT, hlen, hs, h0', goInt, Nat.min_def, storeCells]
  · rename_i i o n c l
    simp only at he
    split at he
    case h_2 => cases he
    rename_i cs hcs
    split at he
    case h_2 => cases he
    rename_i ds t mo hg
    rw [cond_eq_ite] at he
    split at he
    case isFalse => cases he
    rename_i hcond
    simp only [Bool.and_eq_true, decide_eq_true_eq] at hcond
    obtain ⟨hm, hall, hle⟩ := hcond
    have hle := Nat.le_of_ble_eq_true hle
    cases he
    obtain ⟨us2, hf2, hr2⟩ := getCells_sound (P := P) r hb hcs
    obtain ⟨hi, c', rfl, _⟩ := VR.sl_inv ha
    obtain ⟨w', hst, r'⟩ := R.storeL (P := P) cs us2.toList 0 ds h w r hi hg hm (o := o) (by omega) hr2 (VRL.atoms hall)
    refine ⟨.int .i64 (Nat.min m n), w', ?_, r', by simp only [VR]⟩
    simp only [Builtin.copy_, Array.getElem?_toList, Sem.run_bind]
    simp [run_underlying hdT, hlen, hs, hf2, hst, goInt]
  · cases he

def MEs (σ : Sig) (es : List (List UInt8 × AV)) (en : List MapEntry) : Prop :=
  en.length = es.length ∧ ∀ (j : Nat) (x : List UInt8 × AV) (e : MapEntry), es[j]? = some x → en[j]? = some e → e.key = .string ⟨x.1.toArray⟩ ∧ VR σ x.2 e.val

theorem idxK_sound {k : List UInt8} : ∀ {es : List (List UInt8 × AV)} {en : List MapEntry} (n : Nat), MEs σ es en →
    (∀ j, idxK k es n = some j → n ≤ j ∧ j < n + es.length ∧ ∃ u e, Instr.findNow .string (.string ⟨k.toArray⟩) en n = some (some (j, u)) ∧ en[j - n]? = some e ∧ e.key = .string ⟨k.toArray⟩) ∧
    (idxK k es n = none → Instr.findNow .string (.string ⟨k.toArray⟩) en n = some none)
  | [], [], n, _ => ⟨fun v h => by simp [idxK] at h, fun _ => rfl⟩
  | [], e :: en, n, h => by have := h.1; simp at this
  | x :: es, [], n, h => by have := h.1; simp at this
  | (k', v') :: es, e :: en, n, hm => by
      obtain ⟨hk, hv⟩ := hm.2 0 (k', v') e (by simp) (by simp)
      have ih := idxK_sound (k := k) (es := es) (en := en) (n + 1) ⟨by simpa using hm.1, fun j x e hx he => hm.2 (j + 1) x e (by simpa using hx) (by simpa using he)⟩
      have e0 : Instr.sameNow .string (.string ⟨k.toArray⟩) e.key = some (k == k') := by rw [hk]; simp only [Instr.sameNow]; rw [str_beq]
      simp only [idxK]
      cases hb : (k == k')
      · simp only [cond_false]
        rw [hb] at e0
        refine ⟨fun j h => ?_, fun h => ?_⟩
        · obtain ⟨a1, a2, u, e', h1, h2, h3⟩ := ih.1 j h
          refine ⟨by omega, by simp; omega, u, e', by simp only [Instr.findNow, e0]; exact h1, ?_, h3⟩
          have : j - n = (j - (n + 1)) + 1 := by omega
          rw [this]; simpa using h2
        · simp only [Instr.findNow, e0]; exact ih.2 h
      · simp only [cond_true]
        rw [hb] at e0
        refine ⟨fun j h => ?_, fun h => by cases h⟩
        cases h
        have : k = k' := by simpa using hb
        subst this
        exact ⟨Nat.le_refl _, by simp, e.val, e, by simp only [Instr.findNow, e0], by simp, hk⟩

theorem strMap_sound (ok : EnvT P E) {t : TypeId} (he : strMap E t = true) : ∃ k e, P.underlying t = some (.map k e) ∧ P.underlying k = some .string := by
  unfold strMap at he
  split at he
  · rename_i i hi
    split at he
    · rename_i k e hd
      unfold isStr at he
      split at he
      · rename_i ki hki
        split at he
        · rename_i hs
          exact ⟨k, e, by rw [(ok.ty t i hi).1, hd], by rw [(ok.ty k ki hki).1, hs]⟩
        · cases he
      · cases he
    · cases he
  · cases he

theorem Born.modify {en : Array MapEntry} {cl j : Nat} {f : MapEntry → MapEntry} (h : Born en cl) (hf : ∀ e, (f e).born = e.born) : Born (en.modify j f) cl := by
  have key : ∀ (k : Nat) (e : MapEntry), (en.modify j f)[k]? = some e → ∃ e', en[k]? = some e' ∧ e.born = e'.born := fun k e he => by
    rw [Array.getElem?_modify] at he
    split at he
    · rw [Option.map_eq_some_iff] at he
      obtain ⟨e', h1, rfl⟩ := he
      exact ⟨e', h1, hf e'⟩
    · exact ⟨e, he, rfl⟩
  refine ⟨fun k e he => ?_, fun i k a b ha hb hab => ?_⟩
  · obtain ⟨e', h1, h2⟩ := key k e he
    rw [h2]; exact h.1 k e' h1
  · obtain ⟨a', h1, h2⟩ := key i a ha
    obtain ⟨b', h3, h4⟩ := key k b hb
    exact h.2 i k a' b' h1 h3 (by rw [← h2, ← h4]; exact hab)
theorem Born.push {en : Array MapEntry} {cl : Nat} (h : Born en cl) {e0 : MapEntry} (h0 : e0.born = cl) : Born (en.push e0) (cl + 1) := by
  have key : ∀ (k : Nat) (e : MapEntry), (en.push e0)[k]? = some e → (k < en.size ∧ en[k]? = some e) ∨ (k = en.size ∧ e = e0) := fun k e he => by
    rw [Array.getElem?_push] at he
    split at he
    · cases he; exact .inr ⟨by assumption, rfl⟩
    · exact .inl ⟨(Array.getElem?_eq_some_iff.1 he).1, he⟩
  refine ⟨fun k e he => ?_, fun i k a b ha hb hab => ?_⟩
  · rcases key k e he with ⟨_, h1⟩ | ⟨_, rfl⟩
    · have := h.1 k e h1; omega
    · omega
  · rcases key i a ha with ⟨i1, h1⟩ | ⟨i1, rfl⟩ <;> rcases key k b hb with ⟨k1, h2⟩ | ⟨k1, rfl⟩
    · exact h.2 i k a b h1 h2 hab
    · have := h.1 i a h1; omega
    · have := h.1 k b h2; omega
    · omega
theorem Born.erase {en : Array MapEntry} {cl j : Nat} (h : Born en cl) : Born (en.eraseIdxIfInBounds j) cl := by
  have key : ∀ (k : Nat) (e : MapEntry), (en.eraseIdxIfInBounds j)[k]? = some e → ∃ k', en[k']? = some e ∧ k' = if k < j then k else k + 1 := fun k e he => by
    have e1 : (en.eraseIdxIfInBounds j).toList = en.toList.eraseIdx j := by simp
    rw [← Array.getElem?_toList, e1, List.getElem?_eraseIdx] at he
    split at he
    · exact ⟨k, by rw [← Array.getElem?_toList]; exact he, by rw [if_pos ‹_›]⟩
    · exact ⟨k + 1, by rw [← Array.getElem?_toList]; exact he, by rw [if_neg ‹_›]⟩
  refine ⟨fun k e he => ?_, fun i k a b ha hb hab => ?_⟩
  · obtain ⟨k', h1, _⟩ := key k e he
    exact h.1 k' e h1
  · obtain ⟨i', h1, h2⟩ := key i a ha
    obtain ⟨k', h3, h4⟩ := key k b hb
    have := h.2 i' k' a b h1 h3 hab
    split at h2 <;> split at h4 <;> omega
theorem Born.none : Born #[] 0 := ⟨fun k e he => by simp at he, fun i j a b ha => by simp at ha⟩

theorem R.setMap (r : R E.size B W0 σ h w) {i : Nat} (hi : i < σ.n) {es es' : List (List UInt8 × AV)} (hg : h.get i = .map es) {en' : Array MapEntry} {cl cl' : Nat} {en : Array MapEntry} (hb : w.heap[(σ.at_ i).block]? = some (.map en cl))
    (hm : MEs σ es' en'.toList) (hbn : Born en' cl') : (setObj (σ.at_ i).block (.map en' cl')).run P w = .ok () { w with heap := w.heap.setIfInBounds (σ.at_ i).block (.map en' cl') } ∧
      R E.size B W0 σ (h.set i (.map es')) { w with heap := w.heap.setIfInBounds (σ.at_ i).block (.map en' cl') } := by
  have hob := r.obj i (by rw [← r.n]; exact hi)
  rw [hg] at hob
  obtain ⟨hB, _⟩ := hob
  refine ⟨by simp [setObj, Sem.run, hb], r.set (by rw [← r.n]; exact hi) (by rw [hg]; trivial) (by simp) rfl rfl rfl (fun k hk => ?_) hB ⟨hB, en', cl', ?_, by simpa using hm.1, fun k x e hx he => hm.2 k x e hx (by rw [Array.getElem?_toList]; exact he), hbn⟩⟩
  · simp only [Array.getElem?_setIfInBounds]
    rw [if_neg (fun e => hk e.symm)]
  · simp only [Array.getElem?_setIfInBounds]
    rw [if_pos trivial, if_pos (block_lt hb)]

theorem mapUpdate_sound (ok : EnvT P E) (r : R E.size B W0 σ h w) {t : TypeId} (ht : strMap E t = true) {i : Nat} {s : List UInt8} {v : AV} {a b c : Value} (ha : VR σ (.map i) a) (hb : VR σ (.str s) b) (hc : VR σ v c)
    {es : List (List UInt8 × AV)} (hg : h.get i = .map es) : ∃ w', (Instr.mapUpdate t a b c).run P w = .ok () w' ∧ R E.size B W0 σ (h.set i (.map (insK s v es))) w' := by
  obtain ⟨kt, et, hut, huk⟩ := strMap_sound ok ht
  simp only [VR] at ha hb
  obtain ⟨hi, rfl⟩ := ha
  subst hb
  obtain ⟨en, cl, hbk, hr, hn, hm, hborn⟩ := r.run_map' (P := P) hi hg
  have hme : MEs σ es en.toList := ⟨by simpa using hn, fun j x e hx he => hm j x e hx (by rw [← Array.getElem?_toList]; exact he)⟩
  obtain ⟨f1, f2⟩ := idxK_sound (k := s) 0 hme
  have hck := run_checkKey (P := P) (w := w) (b := false) (run_underlying huk w) (.string ⟨s.toArray⟩)
  cases hx : idxK s es 0 with
  | some j =>
    obtain ⟨_, hj, u, e, hfn, he, hek⟩ := f1 j hx
    simp at he hj
    have hins : insK s v es = es.set j (s, v) := by simp [insK, hx]
    have hme' : MEs σ (es.set j (s, v)) (en.modify j fun x => { x with key := .string ⟨s.toArray⟩, val := c }).toList := by
      refine ⟨by simpa using hn, fun k x e' hxk hek' => ?_⟩
      rw [List.getElem?_set] at hxk
      rw [Array.getElem?_toList, Array.getElem?_modify] at hek'
      by_cases hjk : j = k
      · subst hjk
        rw [if_pos rfl, if_pos hj] at hxk
        cases hxk
        rw [if_pos rfl, he] at hek'
        cases hek'
        exact ⟨rfl, hc⟩
      · rw [if_neg hjk] at hxk hek'
        exact hm k x e' hxk hek'
    obtain ⟨h1, h2⟩ := r.setMap (P := P) (cl' := cl) hi hg hbk hme' (hborn.modify fun _ => rfl)
    refine ⟨_, ?_, by rw [hins]; exact h2⟩
    have hkt : (Instr.keyThatStays e.key (.string ⟨s.toArray⟩)).run P w = .ok (.string ⟨s.toArray⟩) w := by
      rw [hek]
      have : ∀ n, Instr.sameBits n (.string ⟨s.toArray⟩) (.string ⟨s.toArray⟩) = true := fun n => by cases n <;> simp only [Instr.sameBits, str_beq, beq_self_eq_true]
      simp [Instr.keyThatStays, this]
    simp only [Instr.mapUpdate, Sem.run_bind, run_underlying hut, Result.andThen_ok, hr, hck, Instr.findKey, run_underlying huk, hfn, Sem.run_pure]
    simp only [he, Option.map_some, Option.getD_some, hkt, Result.andThen_ok]
    exact h1
  | none =>
    have hfn := f2 hx
    have hins : insK s v es = es ++ [(s, v)] := by simp [insK, hx]
    have hme' : MEs σ (es ++ [(s, v)]) (en.push { key := .string ⟨s.toArray⟩, val := c, born := cl }).toList := by
      refine ⟨by simp [hn], fun k x e' hxk hek' => ?_⟩
      rw [List.getElem?_append] at hxk
      simp only [Array.toList_push, List.getElem?_append, Array.length_toList] at hek'
      rw [hn] at hek'
      split at hxk
      · rw [if_pos ‹_›] at hek'
        exact hm k x e' hxk (by rw [← Array.getElem?_toList]; exact hek')
      · rw [if_neg ‹_›] at hek'
        have hk0 : k - es.length = 0 := by
          have := (List.getElem?_eq_some_iff.1 hxk).1
          simpa using this
        rw [hk0] at hxk hek'
        cases hxk; cases hek'
        exact ⟨rfl, hc⟩
    obtain ⟨h1, h2⟩ := r.setMap (P := P) (cl' := cl + 1) hi hg hbk hme' (hborn.push rfl)
    refine ⟨_, ?_, by rw [hins]; exact h2⟩
    simp only [Instr.mapUpdate, Sem.run_bind, run_underlying hut, Result.andThen_ok, hr, hck, Instr.findKey, run_underlying huk, hfn, Sem.run_pure]
    exact h1

theorem delete_sound (ok : EnvT P E) (r : R E.size B W0 σ h w) {t u ty : TypeId} (ht : strMap E t = true) {i : Nat} {s : List UInt8} {a b : Value} (ha : VR σ (.map i) a) (hb : VR σ (.str s) b)
    {es : List (List UInt8 × AV)} (hg : h.get i = .map es) : ∃ w', (Builtin.delete_ #[t, u] ty #[a, b]).run P w = .ok (.tuple #[]) w' ∧ R E.size B W0 σ (h.set i (.map (delK s es))) w' := by
  obtain ⟨kt, et, hut, huk⟩ := strMap_sound ok ht
  simp only [VR] at ha hb
  obtain ⟨hi, rfl⟩ := ha
  subst hb
  obtain ⟨en, cl, hbk, hr, hn, hm, hborn⟩ := r.run_map' (P := P) hi hg
  have hme : MEs σ es en.toList := ⟨by simpa using hn, fun j x e hx he => hm j x e hx (by rw [← Array.getElem?_toList]; exact he)⟩
  obtain ⟨f1, f2⟩ := idxK_sound (k := s) 0 hme
  have hck := run_checkKey (P := P) (w := w) (b := en.isEmpty) (run_underlying huk w) (.string ⟨s.toArray⟩)
  cases hx : idxK s es 0 with
  | some j =>
    obtain ⟨_, hj, u, e, hfn, he, hek⟩ := f1 j hx
    simp at he hj
    have hdel : delK s es = es.eraseIdx j := by simp [delK, hx]
    have hme' : MEs σ (es.eraseIdx j) (en.eraseIdxIfInBounds j).toList := by
      have e1 : (en.eraseIdxIfInBounds j).toList = en.toList.eraseIdx j := by simp
      rw [e1]
      refine ⟨by simp [List.length_eraseIdx, hn], fun k x e' hxk hek' => ?_⟩
      rw [List.getElem?_eraseIdx] at hxk hek'
      split at hxk
      · rw [if_pos ‹_›] at hek'
        exact hme.2 k x e' hxk hek'
      · rw [if_neg ‹_›] at hek'
        exact hme.2 (k + 1) x e' hxk hek'
    obtain ⟨h1, h2⟩ := r.setMap (P := P) (cl' := cl) hi hg hbk hme' hborn.erase
    refine ⟨_, ?_, by rw [hdel]; exact h2⟩
    simp [Builtin.delete_, run_underlying hut, hr, hck, Instr.findKey, run_underlying huk, hfn, h1]
  | none =>
    have hfn := f2 hx
    have hdel : delK s es = es := by simp [delK, hx]
    obtain ⟨h1, h2⟩ := r.setMap (P := P) (cl' := cl) hi hg hbk hme hborn
    refine ⟨_, ?_, by rw [hdel]; exact h2⟩
    simp [Builtin.delete_, run_underlying hut, hr, hck, Instr.findKey, run_underlying huk, hfn, h1]

/-- A value made, a value of no use ('skip'), and the world behind it. -/
def Ran (P : Program) (s : Sem Next) (w : World) (v : Value) (w' : World) : Prop :=
  s.run P w = .ok (.value v) w' ∨ (s.run P w = .ok .skip w' ∧ v = undef)

theorem frozen_heap {c : Array Value} {e : TypeId} {fr : Nat × Nat} {b n : Nat} (hb : w.heap[b]? = some (.cells c e fr)) :
    ∃ fr', (w.freeze ⟨b, n, none⟩ 1).heap[b]? = some (.cells c e fr') ∧ fr' = (if fr.1 == fr.2 then (n, n + 1) else (min fr.1 n, max fr.2 (n + 1))) ∧ (∀ k, k ≠ b → (w.freeze ⟨b, n, none⟩ 1).heap[k]? = w.heap[k]?) ∧ (w.freeze ⟨b, n, none⟩ 1).heap.size = w.heap.size := by
  refine ⟨_, ?_, rfl, fun k hk => ?_, ?_⟩
  · simp [World.freeze, Array.getElem?_modify, hb]
  · show (w.heap.modify b _)[k]? = _
    rw [Array.getElem?_modify, if_neg (Ne.symm hk)]
  · show (w.heap.modify b _).size = _
    simp

theorem markStringish_run {c : Array Value} {e : TypeId} {fr : Nat × Nat} {ad : Addr} (hb : w.heap[ad.block]? = some (.cells c e fr)) : (markStringish ad).run P w = .ok () (w.freeze ⟨ad.block, c.size, none⟩ 1) := by
  have : w.shape? ad.block = some (e, c.size) := by simp [World.shape?, hb]
  simp [markStringish, this]

def bvL (b : List UInt8) : List Value := b.map fun (c : UInt8) => Value.int .u8 c.toNat

theorem bvL_VRL (b : List UInt8) : VRL σ (b.map fun (c : UInt8) => AV.int .u8 c.toNat) (bvL b) := by
  refine VRL.of_get (by simp [bvL]) fun k x y hx hy => ?_
  simp only [bvL, List.getElem?_map] at hx hy
  cases hb : b[k]? with
  | none => rw [hb] at hx; cases hx
  | some c =>
    rw [hb] at hx hy
    cases hx; cases hy
    simp only [VR]

theorem run_str_bytes {s d e : TypeId} {sd : TypeDesc} (hs : P.underlying s = some sd) (hd : P.underlying d = some (.slice e)) (he : P.underlying e = some (.int .u8)) (b : List UInt8) :
    (convert s d (.string ⟨b.toArray⟩)).run P w = .ok (.slice (some ⟨w.heap.size, 0, none⟩) b.length (grownCap w b.length 0 e))
      (World.freeze (w.drew.alloc (.cells ((bvL b).toArray ++ Array.replicate (grownCap w b.length 0 e - b.length) (Value.int .u8 0)) e)) ⟨w.heap.size, grownCap w b.length 0 e, none⟩ 1) := by
  have hsz : (ByteArray.mk b.toArray).size = b.length := by simp [ByteArray.size]
  have hge := grownCap_ge w b.length 0 e
  have hcs : ((bvL b).toArray ++ Array.replicate (grownCap w b.length 0 e - b.length) (Value.int .u8 0)).size = grownCap w b.length 0 e := by simp [bvL]; omega
  have hm := markStringish_run (P := P) (w := w.drew.alloc (.cells ((bvL b).toArray ++ Array.replicate (grownCap w b.length 0 e - b.length) (Value.int .u8 0)) e)) (ad := ⟨w.heap.size, 0, none⟩) (by exact heap_alloc_new w.drew _)
  rw [hcs] at hm
  have hmap : (Array.map (fun (c : UInt8) => Value.int .u8 (c.toNat : Int)) b.toArray) = (bvL b).toArray := by simp [bvL]
  have e0 : (convert s d (.string ⟨b.toArray⟩)).run P w = (Conv.stringToBytes e ⟨b.toArray⟩).run P w := by
    cases sd <;> simp [convert, run_underlying hs, run_underlying hd, run_underlying he]
  rw [e0]
  simp only [Conv.stringToBytes, hsz, Sem.run_bind]
  have hch : (choose (.appendCap b.length 0 e)).run P w = .ok (grownCap w b.length 0 e) w.drew := by
    simp [Question.forced, grownCap]
  simp only [hch, Result.andThen_ok, hmap, newRow, Sem.run_bind, run_newObj, Sem.run_pure]
  have : ({ w.drew with heap := w.drew.heap.push (.cells ((bvL b).toArray ++ Array.replicate (grownCap w b.length 0 e - b.length) (Value.int .u8 0)) e) } : World) = w.drew.alloc (.cells ((bvL b).toArray ++ Array.replicate (grownCap w b.length 0 e - b.length) (Value.int .u8 0)) e) := rfl
  rw [this]
  simp only [World.size_drew] at hm ⊢
  rw [hm]
  rfl

theorem eOp_sound (ok : EnvT P E) (r : R E.size B W0 σ h w) {fr : Nat → AV} {a : Act} (hf : FR σ fr a) {o : Oper} {y : AV} {h' : AH} (he : eOp E fr h o.op = some (y, h')) :
    ∃ v w' τ, Ran P (execOp a.eval o) w v w' ∧ SE σ τ ∧ R E.size B W0 τ h' w' ∧ VR τ y v := by
  have lift : ∀ {s : Sem Value} {v : Value} {w' : World}, s.run P w = .ok v w' → Ran P (do pure (Next.value (← s))) w v w' := fun {s v w'} h => .inl (by simp [h])
  have liftU : ∀ {s : Sem Unit} {w' : World}, s.run P w = .ok () w' → Ran P (do s; pure Next.skip) w undef w' := fun {s w'} h => .inr ⟨by simp [h], rfl⟩
  have pairs : ∀ ps : Array (Nat × Operand), (ps.toList.map fun p => (p.1, ev fr p.2)).length = (ps.map fun (i, x) => (i, a.eval x)).size ∧
      ∀ (k : Nat) (x : Nat × AV) (z : Nat × Value), (ps.toList.map fun p => (p.1, ev fr p.2))[k]? = some x → (ps.map fun (i, x) => (i, a.eval x))[k]? = some z → x.1 = z.1 ∧ VR σ x.2 z.2 := fun ps => by
    refine ⟨by simp, fun k x z hx hz => ?_⟩
    simp only [List.getElem?_map, Array.getElem?_map, Array.getElem?_toList] at hx hz
    cases hp : ps[k]? with
    | none => rw [hp] at hx; cases hx
    | some p =>
      rw [hp] at hx hz
      cases hx; cases hz
      exact ⟨rfl, hf.ev _⟩
  obtain ⟨dst, op, ty, pos, after, guard⟩ := o
  simp only at he
  unfold eOp at he
  cases op <;> simp only at he <;> try (cases he; done)
  case alloc t =>
    split at he
    case h_2 => cases he
    rename_i ti ht
    cases he
    obtain ⟨_, j, hj, hjs, _, z, hz, hgood, _, hzl, hzr⟩ := ok.ty t ti ht
    have hz0 : (zeroValue t).run P w = .ok z w := by simp [zeroValue, typeInfo, hj, hz]
    refine ⟨_, _, _, lift (v := .pointer (some ⟨w.heap.size, 0, none⟩)) (w' := w.alloc (.cells z.cells t)) ?_, σ.se_add _, aNew r (Below.refl _ _) ((hzr σ).cells hgood) t t, by rw [← r.n]; exact VR.new_ptr w 0⟩
    simp [Instr.alloc, hz0, newVar, newRow]
  case box t x =>
    rw [cond_eq_ite] at he
    split at he
    case isFalse => cases he
    rename_i hc
    simp only [Bool.and_eq_true] at hc
    cases he
    refine ⟨_, _, _, lift (v := .pointer (some ⟨w.heap.size, 0, none⟩)) (w' := w.alloc (.cells (a.eval x).cells t)) ?_, σ.se_add _, aNew r (Below.refl _ _) ((hf.ev x).cells hc.1) t t, by rw [← r.n]; exact VR.new_ptr w 0⟩
    simp [Instr.box, newVar, newRow]
  case build t ps =>
    split at he
    case h_2 => cases he
    rename_i v hv
    cases he
    obtain ⟨u, hu, hr⟩ := aBuild_sound (P := P) (w := w) ok (pairs ps).1 (pairs ps).2 hv
    exact ⟨u, w, σ, lift hu, SE.refl _, r, hr⟩
  case buildSlice t n ps =>
    obtain ⟨v, w', τ, h1, h2, h3, h4⟩ := aBuildSlice_sound (P := P) ok r (pairs ps).1 (pairs ps).2 he
    exact ⟨v, w', τ, lift h1, h2, h3, h4⟩
  case store t p v =>
    split at he
    case h_2 => cases he
    rename_i h'' hst
    cases he
    obtain ⟨w', h1, h2⟩ := aStore_sound (P := P) ok r (hf.ev p) (hf.ev v) hst
    exact ⟨undef, w', σ, liftU h1, SE.refl _, h2, by simp only [VR]⟩
  case makeSlice t l c =>
    obtain ⟨v, w', τ, h1, h2, h3, h4⟩ := aMake_sound (P := P) ok r (hf.ev l) (hf.ev c) he
    exact ⟨v, w', τ, lift h1, h2, h3, h4⟩
  case makeMap t m =>
    cases m with
    | some x => cases he
    | none =>
      cases he
      refine ⟨.map (some w.heap.size), w.alloc (.map #[] 0), σ.add ⟨w.heap.size, 0, 0⟩, lift ?_, σ.se_add _, r.push ((Below.refl _ _).alloc (Nat.le_refl _) _) (Nat.le_refl _) ⟨?_, #[], 0, ?_, rfl, by simp, Born.none⟩, ?_⟩
      · simp [Instr.makeMap]
      · rw [σ.at_add]; exact r.le
      · rw [σ.at_add]; exact heap_alloc_new w _
      · simp only [VR]
        rw [← r.n]
        exact ⟨by simp [Sig.add], by rw [σ.at_add]⟩
  case mapUpdate t m k v =>
    split at he
    case h_2 => cases he
    rename_i i s hm hk
    rw [cond_eq_ite] at he
    split at he
    case isFalse => cases he
    rename_i hsm
    split at he
    case h_2 => cases he
    rename_i es hg
    cases he
    have h1 := hf.ev m
    have h2 := hf.ev k
    rw [hm] at h1
    rw [hk] at h2
    obtain ⟨w', h3, h4⟩ := mapUpdate_sound (P := P) ok r hsm h1 h2 (hf.ev v) hg
    exact ⟨undef, w', σ, liftU h3, SE.refl _, h4, by simp only [VR]⟩
  case convert s d x =>
    split at he
    · -- a text's bytes
      rename_i si di b hs hd hx
      split at he
      case h_2 => cases he
      rename_i e hde
      split at he
      case h_2 => cases he
      rename_i ei hei
      split at he
      case h_2 => cases he
      rename_i hu8
      rw [cond_eq_ite] at he
      split at he
      case isFalse => cases he
      rename_i hcond
      simp only [Bool.and_eq_true] at hcond
      obtain ⟨hsz, hlen⟩ := hcond
      have hsz := Nat.eq_of_beq_eq_true hsz
      cases he
      have us := (ok.ty s si hs).1
      have ud := (ok.ty d di hd).1
      rw [hde] at ud
      have ue := (ok.ty e ei hei).1
      rw [hu8] at ue
      have hxv := hf.ev x
      rw [hx] at hxv
      simp only [VR] at hxv
      have hrun := run_str_bytes (P := P) (w := w) us ud ue b
      rw [← hxv] at hrun
      have hge := grownCap_ge w b.length 0 e
      have hcsz : ((bvL b).toArray ++ Array.replicate (grownCap w b.length 0 e - b.length) (Value.int .u8 0)).size = grownCap w b.length 0 e := by simp [bvL]; omega
      have hmax : b.length ≤ maxLen → grownCap w b.length 0 e ≤ maxLen := fun h => grownCap_le_maxLen w _ _ _ h
      have hbl : b.length ≤ maxLen := Nat.le_of_ble_eq_true hlen
      obtain ⟨fr', hb', hfr, hoth, hsz'⟩ := frozen_heap (n := grownCap w b.length 0 e) (heap_alloc_new w.drew (.cells ((bvL b).toArray ++ Array.replicate (grownCap w b.length 0 e - b.length) (Value.int .u8 0)) e))
      simp only [World.size_drew] at hb' hoth hsz'
      have hse := σ.se_add ⟨w.heap.size, 0, grownCap w b.length 0 e⟩
      refine ⟨_, _, σ.add ⟨w.heap.size, 0, grownCap w b.length 0 e⟩, lift hrun, hse, r.push ⟨rfl, rfl, rfl, ?_, fun k hk => ?_⟩ (Nat.le_refl _) ⟨_, e, fr', by rw [σ.at_add]; exact hb', fun k v hv => ?_, fun _ => ⟨by rw [σ.at_add]; exact r.le, by rw [σ.at_add], .inr ?_, fun h => (by cases h), fun _ => ⟨1, by simp [Env.size, hei, hsz], Nat.one_pos, by rw [σ.at_add, hcsz]; simp, by rw [σ.at_add]; exact hmax hbl, ?_⟩⟩⟩, ?_⟩
      · rw [hsz']; simp
      · rw [hoth k (by omega)]
        exact Below.heap_alloc w.drew _ k hk
      · have hv0 := hv
        obtain ⟨u, hu, hr⟩ := (bvL_VRL (σ := σ) b).get hv
        have hk := (List.getElem?_eq_some_iff.1 hu).1
        refine ⟨u, ?_, VR.mono hse _ _ hr⟩
        rw [σ.at_add, Nat.zero_add, Array.getElem?_append_left (by simpa using hk)]
        simpa using hu
      · rw [hcsz, hfr]; simp
      · rw [hcsz]; simpa using hge
      · simp only [VR, if_true]
        rw [← r.n]
        exact ⟨by simp [Sig.add], grownCap w b.length 0 e, by simp [Sig.addr, σ.at_add], hge, fun _ => by rw [σ.at_add]⟩
    · -- the same bytes
      rename_i si di i o' n c l hs hd hx
      split at he
      case h_2 => cases he
      rename_i e' e hse hde
      split at he
      case h_2 => cases he
      rename_i ei hei
      split at he
      case h_2 => cases he
      rename_i cs t m hu8 hg
      rw [cond_eq_ite] at he
      split at he
      case isFalse => cases he
      rename_i hcond
      simp only [Bool.and_eq_true, decide_eq_true_eq] at hcond
      obtain ⟨rfl, hm⟩ := hcond
      cases he
      have us := (ok.ty s si hs).1
      have ud := (ok.ty s di hd).1
      rw [hse] at us
      rw [us] at ud
      have ee : e' = e := by rw [hde] at ud; cases ud; rfl
      subst ee
      have ue := (ok.ty e' ei hei).1
      rw [hu8] at ue
      have hxv := hf.ev x
      rw [hx] at hxv
      have hxv0 := hxv
      obtain ⟨hi, c', hxe, _⟩ := VR.sl_inv hxv
      have hob := r.obj i (by rw [← r.n]; exact hi)
      rw [hg] at hob
      obtain ⟨cc, ee, fr0, hbk, hcc, hwr⟩ := hob.row
      obtain ⟨hB, ho0, hfz, hown, hlo⟩ := hwr hm
      have hmk := markStringish_run (P := P) (w := w) (ad := σ.addr i o') (by exact hbk)
      obtain ⟨fr', hb', hfr, hoth, hsz'⟩ := frozen_heap (n := cc.size) hbk
      have hnew : w.freeze ⟨(σ.addr i o').block, cc.size, none⟩ 1 = w.freeze ⟨(σ.at_ i).block, cc.size, none⟩ 1 := rfl
      rw [hnew] at hmk
      have hset : h.set i (.cells cs t m) = h := by
        unfold AH.set
        obtain ⟨nx, g⟩ := h
        congr 1
        funext j
        cases hbj : Nat.beq j i
        · rfl
        · have := Nat.eq_of_beq_eq_true hbj; subst this; exact hg.symm
      have hr2 := r.set (w' := w.freeze ⟨(σ.at_ i).block, cc.size, none⟩ 1) (i := i) (o := .cells cs t m) (by rw [← r.n]; exact hi) (by rw [hg]; exact hm) hsz' rfl rfl rfl hoth hB
        ⟨cc, ee, fr', hb', hcc, fun _ => ⟨hB, ho0, .inr (by rw [hfr]; split <;> simp <;> rename_i hq <;> simp at hq <;> omega), hown, hlo⟩⟩
      rw [hset] at hr2
      refine ⟨a.eval x, _, σ, lift ?_, SE.refl _, hr2, hxv0⟩
      rw [hxe]
      simp only [convert, Sem.run_bind, run_underlying us, Result.andThen_ok, run_underlying ue, beq_self_eq_true]
      rw [hmk]
      rfl
    · cases he
  case call c =>
    split at he
    case h_2 => cases he
    rename_i b hb
    have e1 : execOp a.eval (⟨dst, .call c, ty, pos, after, guard⟩ : Oper) = (do let d ← resolve a.eval c ty; invoke d.target d.args) := rfl
    have e2 : ∀ w, (resolve a.eval c ty).run P w = .ok { target := .builtin b c.argTypes ty (c.args.map fun | .const _ => true | _ => false), args := c.args.map a.eval } w := fun w => by simp only [resolve, hb]; rfl
    have e3 : ∀ {v w'}, (builtin b c.argTypes ty (c.args.map fun | .const _ => true | _ => false) (c.args.map a.eval)).run P w = .ok (.value v) w' → Ran P (execOp a.eval (⟨dst, .call c, ty, pos, after, guard⟩ : Oper)) w v w' := fun {v w'} h => .inl (by rw [e1]; simp only [Sem.run_bind, e2, Result.andThen_ok]; exact h)
    have lv : ∀ {s : Sem Value} {v : Value} {w' : World}, s.run P w = .ok v w' → (do pure (Next.value (← s)) : Sem Next).run P w = .ok (.value v) w' := fun {s v w'} h => by simp [h]
    unfold eBuiltin at he
    split at he
    · rename_i sv xv sT xT ha0 ht
      obtain ⟨s, x, ha, rfl, rfl⟩ := map_two ha0
      have ha' : c.args = #[s, x] := by rw [← Array.toArray_toList (xs := c.args), ha]
      have ht' : c.argTypes = #[sT, xT] := by rw [← Array.toArray_toList (xs := c.argTypes), ht]
      split at he
      case h_2 => cases he
      rename_i si xi hsi hxi
      split at he
      case h_2 => cases he
      rename_i e hd
      split at he
      case h_2 => cases he
      rename_i ei hei
      rw [cond_eq_ite] at he
      split at he
      case isFalse => cases he
      rename_i hcond
      simp only [Bool.and_eq_true] at hcond
      have hsz := blt_lt hcond.1
      have hby := blt_lt hcond.2
      have us := (ok.ty sT si hsi).1
      rw [hd] at us
      have ux := (ok.ty xT xi hxi).1
      have hfin : notInt xi.und → (match newsOf h ei.size (ev fr x) with
          | some (n, news) => aAppend h e ei (ev fr s) n news
          | none => none) = some (y, h') → ∃ v w' τ, Ran P (execOp a.eval (⟨dst, .call c, ty, pos, after, guard⟩ : Oper)) w v w' ∧ SE σ τ ∧ R E.size B W0 τ h' w' ∧ VR τ y v := fun hni hap => by
        split at hap
        case h_2 => cases hap
        rename_i n news hnews
        obtain ⟨v, w', τ, h1, h2, h3, h4⟩ := aAppend_sound (P := P) (ty := ty) ok r us ux hni hei hsz hby (hf.ev s) (hf.ev x) hnews hap
        refine ⟨v, w', τ, e3 ?_, h2, h3, h4⟩
        rw [ha', ht']
        have e4 : Array.map a.eval #[s, x] = #[a.eval s, a.eval x] := by simp
        rw [e4]
        exact lv (s := Builtin.append_ #[sT, xT] ty #[a.eval s, a.eval x]) h1
      split at he
      · rename_i e' hxd
        exact hfin (.inl ⟨e', hxd⟩) he
      · rename_i hxd
        exact hfin (.inr hxd) he
      · cases he
    · rename_i dv xv dT xT ha0 ht
      obtain ⟨d, x, ha, rfl, rfl⟩ := map_two ha0
      have ha' : c.args = #[d, x] := by rw [← Array.toArray_toList (xs := c.args), ha]
      have ht' : c.argTypes = #[dT, xT] := by rw [← Array.toArray_toList (xs := c.argTypes), ht]
      split at he
      case h_2 => cases he
      rename_i di hdi
      split at he
      case h_2 => cases he
      rename_i e hd
      split at he
      case h_2 => cases he
      rename_i ei hei
      have ud := (ok.ty dT di hdi).1
      rw [hd] at ud
      obtain ⟨v, w', h1, h2, h3⟩ := aCopy_sound (P := P) (sT := xT) (ty := ty) r ud (fun w => ok.sizeOf hei w) (hf.ev d) (hf.ev x) he
      refine ⟨v, w', σ, e3 ?_, SE.refl _, h2, h3⟩
      rw [ha', ht']
      have e4 : Array.map a.eval #[d, x] = #[a.eval d, a.eval x] := by simp
      rw [e4]
      exact lv (s := Builtin.copy_ #[dT, xT] ty #[a.eval d, a.eval x]) h1
    · rename_i mv kv mT kT ha0 ht
      obtain ⟨m, k, ha, rfl, rfl⟩ := map_two ha0
      have ha' : c.args = #[m, k] := by rw [← Array.toArray_toList (xs := c.args), ha]
      have ht' : c.argTypes = #[mT, kT] := by rw [← Array.toArray_toList (xs := c.argTypes), ht]
      split at he
      case h_2 => cases he
      rename_i i s hm hk
      rw [cond_eq_ite] at he
      split at he
      case isFalse => cases he
      rename_i hsm
      split at he
      case h_2 => cases he
      rename_i es hg
      cases he
      have h1 := hf.ev m
      have h2 := hf.ev k
      rw [hm] at h1
      rw [hk] at h2
      obtain ⟨w', h3, h4⟩ := delete_sound (P := P) (u := kT) (ty := ty) ok r hsm h1 h2 hg
      refine ⟨.tuple #[], w', σ, e3 ?_, SE.refl _, h4, by simp [VR, VRL]⟩
      rw [ha', ht']
      have e4 : Array.map a.eval #[m, k] = #[a.eval m, a.eval k] := by simp
      rw [e4]
      exact lv (s := Builtin.delete_ #[mT, kT] ty #[a.eval m, a.eval k]) h3
    · cases he
end
end Go.Proofs.Yteblojfcalgoeaa

/- The abstract machine: one operation with calls; regions in the order of the text. Conditions: none. -/
namespace Go.Proofs.Yteblojfcalgoeaa
open Go Go.RowKit

abbrev Caller := FuncId → List AV → AH → Option Out
abbrev Spec := Caller → List AV → AH → Option Out

def qStep (E : Env) (fr : Nat → AV) (h : AH) (op : Op) : Option AV :=
  match op with
  | .build t parts => aBuild E t (parts.toList.map fun p => (p.1, ev fr p.2))
  | op => qOp E fr h op

inductive SR where
  | val (v : AV) (h : AH)
  | pan (v : AV) (h : AH)

def Out.sr : Out → SR
  | .ret v h => .val v h
  | .pan v h => .pan v h

def aEnter (E : Env) (K : Caller) (g : FuncId) (args : List AV) (h : AH) : Option SR :=
  match E.fn g with
  | some _ => match K g args h with
    | some o => some o.sr
    | none => none
  | none => none

def aMeth (E : Env) (K : Caller) (recv : AV) (m : String) (args : List AV) (h : AH) : Option SR :=
  match recv with
  | .iface t (.ptr i o) => match E.meth t m with
    | some g => aEnter E K g (.ptr i o :: args) h
    | none => none
  | _ => none

def aOper (E : Env) (K : Caller) (fr : Nat → AV) (h : AH) (op : Op) : Option SR :=
  match op with
  | .panic x => match ev fr x with
    | .iface t v => some (.pan (.iface t v) h)
    | _ => none
  | .call c => match c.callee with
    | .value f => match ev fr f with
      | .fn (.func g) first cap => aEnter E K g (first ++ c.args.toList.map (ev fr) ++ cap) h
      | .fn (.method m) first _ => match first ++ c.args.toList.map (ev fr) with
        | recv :: rest => aMeth E K recv m rest h
        | [] => none
      | _ => none
    | .invoke recv m => aMeth E K (ev fr recv) m (c.args.toList.map (ev fr)) h
    | .builtin _ => match qOp E fr h (.call c) with
      | some v => some (.val v h)
      | none => match eOp E fr h (.call c) with
        | some (v, h') => some (.val v h')
        | none => none
  | op => match qStep E fr h op with
    | some v => some (.val v h)
    | none => match eOp E fr h op with
      | some (v, h') => some (.val v h')
      | none => none

section
variable {P : Program} {E : Env} {σ : Sig} {B : Nat} {W0 : World} {h : AH} {w : World}

/-- What an abstract call's answer says of the model's call. -/
def OutR (sz : TypeId → Option Nat) (B : Nat) (W0 : World) (σ : Sig) (out : Out) (e : Ending) (w' : World) : Prop :=
  match out with
  | .ret v h' => ∃ u τ, e = .returned u ∧ SE σ τ ∧ R sz B W0 τ h' w' ∧ VR τ v u
  | .pan v h' => ∃ u τ, e = .panicked [{ v := u, recovered := false }] ∧ SE σ τ ∧ R sz B W0 τ h' w' ∧ VR τ v u

def CallAt (P : Program) (sz : TypeId → Option Nat) (f : FuncId) (args : List AV) (h : AH) (out : Out) : Prop :=
  ∀ (B : Nat) (W0 : World) (σ : Sig) (w : World) (vs : Array Value), R sz B W0 σ h w → VRL σ args vs.toList → Calls P f vs w (OutR sz B W0 σ out)

def CallOK (P : Program) (sz : TypeId → Option Nat) (K : Caller) : Prop := ∀ f args h out, K f args h = some out → CallAt P sz f args h out

theorem qStep_sound (ok : EnvT P E) (r : R E.size B W0 σ h w) {fr : Nat → AV} {a : Act} (hf : FR σ fr a) {o : Oper} {y : AV} (he : qStep E fr h o.op = some y) :
    ∃ v, (execOp a.eval o).run P w = .ok (.value v) w ∧ VR σ y v := by
  unfold qStep at he
  split at he
  · rename_i t parts hop
    obtain ⟨dst, op, ty, pos, after, guard⟩ := o
    simp only at hop; subst hop
    have hp : ∀ (k : Nat) (x : Nat × AV) (z : Nat × Value), (parts.toList.map fun p => (p.1, ev fr p.2))[k]? = some x → (parts.map fun (i, x) => (i, a.eval x))[k]? = some z → x.1 = z.1 ∧ VR σ x.2 z.2 := fun k x z hx hz => by
      simp only [List.getElem?_map, Array.getElem?_map, Array.getElem?_toList] at hx hz
      cases hp : parts[k]? with
      | none => rw [hp] at hx; cases hx
      | some p =>
        rw [hp] at hx hz
        cases hx; cases hz
        exact ⟨rfl, hf.ev _⟩
    obtain ⟨u, hu, hr⟩ := aBuild_sound (P := P) (w := w) ok (by simp) hp he
    exact ⟨u, by simp [execOp, hu], hr⟩
  · exact qOp_sound ok r hf he

theorem run_callFunc {g : FuncId} {F : Func} (ok : EnvT P E) (hg : E.fn g = some F) (args : Array Value) : (callFunc g args).run P w = .ok (.enter g args) w := by
  obtain ⟨h1, h2, h3⟩ := ok.fn g F hg
  have h4 : F.body.isNone = false := by cases hb : F.body <;> simp_all
  simp only [callFunc, Sem.run_bind, run_program, Result.andThen_ok, h1, h3, h4]
  rfl

/-- What is to hold behind an operation. -/
def After (sz : TypeId → Option Nat) (B : Nat) (W0 : World) (σ : Sig) (a : Act) (dst : Option Tmp) (next : Act → World → Prop) (Q : Exit → Act → World → Prop) (r : SR) : Prop :=
  match r with
  | .val v h' => ∀ u w' τ, SE σ τ → R sz B W0 τ h' w' → VR τ v u → next (a.put dst u) w'
  | .pan v h' => ∀ u w' τ, SE σ τ → R sz B W0 τ h' w' → VR τ v u → Q (.panic [{ v := u, recovered := false }]) a w'

theorem aEnter_sound (ok : EnvT P E) {K : Caller} (okK : CallOK P E.size K) (r : R E.size B W0 σ h w) {g : FuncId} {args : List AV} {vs : Array Value} (hv : VRL σ args vs.toList) {sr : SR} (he : aEnter E K g args h = some sr)
    {a : Act} {o : Oper} {next : Act → World → Prop} {Q : Exit → Act → World → Prop} (ha : After E.size B W0 σ a o.dst next Q sr) {s : Sem Next} (hs : s.run P w = (callFunc g vs).run P w) :
    o.upon P a next Q (s.run P w) := by
  unfold aEnter at he
  split at he
  case h_2 => cases he
  rename_i F hF
  split at he
  case h_2 => cases he
  rename_i out hout
  cases he
  rw [hs, run_callFunc ok hF]
  rw [Oper.upon_enter]
  refine (okK g args h out hout B W0 σ w vs r hv).mono fun e w' hr => ?_
  cases out with
  | ret v h' =>
    obtain ⟨u, τ, rfl, h1, h2, h3⟩ := hr
    exact ha u w' τ h1 h2 h3
  | pan v h' =>
    obtain ⟨u, τ, rfl, h1, h2, h3⟩ := hr
    exact ha u w' τ h1 h2 h3

theorem aMeth_sound (ok : EnvT P E) {K : Caller} (okK : CallOK P E.size K) (r : R E.size B W0 σ h w) {recv : AV} {rv : Value} (hrv : VR σ recv rv) {m : String} {args : List AV} {vs : Array Value} (hv : VRL σ args vs.toList) {sr : SR} (he : aMeth E K recv m args h = some sr)
    {a : Act} {o : Oper} {next : Act → World → Prop} {Q : Exit → Act → World → Prop} (ha : After E.size B W0 σ a o.dst next Q sr) {s : Sem Next} (hs : s.run P w = (callMethod rv m vs).run P w) :
    o.upon P a next Q (s.run P w) := by
  unfold aMeth at he
  split at he
  case h_2 => cases he
  rename_i t i o'
  split at he
  case h_2 => cases he
  rename_i g hg
  simp only [VR] at hrv
  obtain ⟨y, rfl, hi, rfl⟩ := hrv
  have hrun : s.run P w = (callFunc g (#[.pointer (some (σ.addr i o'))] ++ vs)).run P w := by
    rw [hs]
    simp only [callMethod, Sem.run_bind, run_program, Result.andThen_ok, ok.meth t m g hg]
  refine aEnter_sound ok okK r (vs := #[.pointer (some (σ.addr i o'))] ++ vs) ?_ he ha hrun
  simp only [Array.toList_append, List.cons_append, List.nil_append, VRL, VR]
  exact ⟨_, _, rfl, ⟨hi, rfl⟩, hv⟩

theorem aOper_sound (ok : EnvT P E) {K : Caller} (okK : CallOK P E.size K) (r : R E.size B W0 σ h w) {fr : Nat → AV} {a : Act} (hf : FR σ fr a) {o : Oper} {sr : SR} (he : aOper E K fr h o.op = some sr)
    {next : Act → World → Prop} {Q : Exit → Act → World → Prop} (ha : After E.size B W0 σ a o.dst next Q sr) : o.wp P a w next Q := by
  unfold Oper.wp
  have quiet : ∀ v, qStep E fr h o.op = some v → sr = .val v h → o.upon P a next Q ((execOp a.eval o).run P w) := fun v hv hsr => by
    obtain ⟨u, hu, hr⟩ := qStep_sound (P := P) ok r hf hv
    rw [hu, Oper.upon_value]
    subst hsr
    exact ha u w σ (SE.refl _) r hr
  have effect : ∀ v h', eOp E fr h o.op = some (v, h') → sr = .val v h' → o.upon P a next Q ((execOp a.eval o).run P w) := fun v h' hv hsr => by
    obtain ⟨u, w', τ, hu, h1, h2, h3⟩ := eOp_sound (P := P) ok r hf hv
    subst hsr
    rcases hu with hu | ⟨hu, rfl⟩
    · rw [hu, Oper.upon_value]
      exact ha u w' τ h1 h2 h3
    · rw [hu, Oper.upon_skip]
      exact ha undef w' τ h1 h2 h3
  unfold aOper at he
  split at he
  · rename_i x hop
    split at he
    · rename_i t v hx
      cases he
      have h0 := hf.ev x
      rw [hx] at h0
      have h1 := h0
      simp only [VR] at h0
      obtain ⟨y, hy, _⟩ := h0
      have : (execOp a.eval o).run P w = .halt (.panic (a.eval x)) w := by
        simp only [execOp, hop, hy]
        rfl
      rw [this, Oper.upon_panic]
      exact ha (a.eval x) w σ (SE.refl _) r h1
    · cases he
  · rename_i c hop
    have e1 : execOp a.eval o = (do let d ← resolve a.eval c o.type; invoke d.target d.args) := by simp only [execOp, hop]
    have hargs : VRL σ (c.args.toList.map (ev fr)) (c.args.map a.eval).toList := by rw [Array.toList_map]; exact VRL.map_ev hf _
    split at he
    · rename_i f hc
      have h0 := hf.ev f
      split at he
      · rename_i g first cap hfn
        rw [hfn] at h0
        simp only [VR] at h0
        obtain ⟨fs, cs, hfv, h1, h2⟩ := h0
        refine aEnter_sound ok okK r (vs := fs ++ c.args.map a.eval ++ cs) ?_ he ha ?_
        · simp only [Array.toList_append]
          exact (h1.append hargs).append h2
        · rw [e1]
          simp only [resolve, hc, hfv, Deferred.ofValue, Sem.run_bind, Sem.run_pure, Result.andThen_ok, invoke]
      · rename_i m first cap hfn
        rw [hfn] at h0
        simp only [VR] at h0
        obtain ⟨fs, cs, hfv, h1, h2⟩ := h0
        have h3 := h1.append hargs
        split at he
        · rename_i recv rest hrr
          rw [hrr] at h3
          simp only [VRL] at h3
          obtain ⟨rv, rs, he2, h4, h5⟩ := h3
          refine aMeth_sound ok okK r h4 (vs := rs.toArray) (by simpa using h5) he ha ?_
          have hall : fs ++ c.args.map a.eval = (rv :: rs).toArray := by
            apply Array.ext'
            simp only [Array.toList_append, he2]
          rw [e1]
          simp only [resolve, hc, hfv, Deferred.ofValue, Sem.run_bind, Sem.run_pure, Result.andThen_ok, invoke, hall]
          simp
        · cases he
      · cases he
    · rename_i recv m hc
      refine aMeth_sound ok okK r (hf.ev recv) hargs he ha ?_
      rw [e1]
      simp only [resolve, hc, Sem.run_bind, Sem.run_pure, Result.andThen_ok, invoke]
      have e2 : (#[a.eval recv] ++ Array.map a.eval c.args)[0]? = some (a.eval recv) := by
        rw [Array.getElem?_append_left (by simp)]; rfl
      have e3 : (#[a.eval recv] ++ Array.map a.eval c.args).extract 1 (#[a.eval recv] ++ Array.map a.eval c.args).size = Array.map a.eval c.args := by
        apply Array.ext'; simp; exact List.take_of_length_le (by simp)
      simp only [e2, e3]
    · rename_i b hc
      split at he
      · rename_i v hv
        cases he
        exact quiet v (by rw [hop]; exact hv) rfl
      · split at he
        · rename_i v h' hv
          cases he
          exact effect v h' (by rw [hop]; exact hv) rfl
        · cases he
  · split at he
    · rename_i v hv
      cases he
      exact quiet v hv rfl
    · split at he
      · rename_i v h' hv
        cases he
        exact effect v h' hv rfl
      · cases he

/-! ### Guards, and operations one behind the other -/
def setF (fr : Nat → AV) (d : Option Tmp) (v : AV) : Nat → AV :=
  match d with
  | some t => fun j => bif Nat.beq j t then v else fr j
  | none => fr

def okD (nt : Nat) : Option Tmp → Bool
  | some t => Nat.blt t nt
  | none => true

theorem FR.put {fr : Nat → AV} {a : Act} (hf : FR σ fr a) {nt : Nat} (hn : a.tmps.size = nt) {d : Option Tmp} (hd : okD nt d = true) {v : AV} {u : Value} (hv : VR σ v u) : FR σ (setF fr d v) (a.put d u) := by
  cases d with
  | none => exact hf
  | some t =>
    intro j
    simp only [okD] at hd
    have hlt := blt_lt hd
    simp only [setF, Act.put]
    cases hb : Nat.beq j t
    · have hne := Nat.ne_of_beq_eq_false hb
      simp only [cond_false]
      have := hf j
      rw [Array.getD_eq_getD_getElem?, Array.getElem?_setIfInBounds_ne (Ne.symm hne), ← Array.getD_eq_getD_getElem?]
      exact this
    · have := Nat.eq_of_beq_eq_true hb
      subst this
      simp only [cond_true]
      rw [Array.getD_eq_getD_getElem?, Array.getElem?_setIfInBounds_self_of_lt (by omega)]
      exact hv

theorem Act.size_put (a : Act) (d : Option Tmp) (u : Value) : (a.put d u).tmps.size = a.tmps.size := by
  cases d <;> simp [Act.put]
theorem Act.defers_put (a : Act) (d : Option Tmp) (u : Value) : (a.put d u).defers = a.defers := by
  cases d <;> rfl

def aWanted (ops : List Oper) (fr : Nat → AV) (o : Oper) : Option Bool :=
  match o.guard with
  | none => some true
  | some (j, want) => match ops[j]? with
    | some g => match g.dst with
      | some t => match fr t with
        | .bool b => some (b == want)
        | .tup _ => some false
        | _ => none
      | none => none
    | none => none

theorem aWanted_sound {ops : Array Oper} {fr : Nat → AV} {a : Act} (hf : FR σ fr a) {o : Oper} {b : Bool} (he : aWanted ops.toList fr o = some b) : Region.wanted o (yielded ops a.tmps) = b := by
  unfold aWanted at he
  unfold Region.wanted
  split at he
  · rename_i hg; cases he; simp [hg]
  · rename_i j want hg
    rw [hg]
    simp only
    split at he
    case h_2 => cases he
    rename_i g hj
    split at he
    case h_2 => cases he
    rename_i t ht
    have hj' : ops[j]? = some g := by rw [← Array.getElem?_toList]; exact hj
    have h0 := hf t
    have hy : ∀ x, a.tmps.getD t undef = x → yielded ops a.tmps j = (match x with | .bool b => some b | _ => none) := fun x hx => by
      unfold yielded
      rw [hj']
      simp only [Option.bind_some, ht]
      rw [Array.getD_eq_getD_getElem?] at hx
      cases hc : a.tmps[t]? with
      | none => rw [hc] at hx; simp at hx; subst hx; rfl
      | some y => rw [hc] at hx; simp at hx; subst hx; cases y <;> rfl
    split at he
    · rename_i c hc
      rw [hc] at h0
      simp only [VR] at h0
      rw [hy _ h0]
      cases he
      cases c <;> cases want <;> rfl
    · rename_i vs hc
      rw [hc] at h0
      simp only [VR] at h0
      obtain ⟨us, hu, _⟩ := h0
      rw [hy _ hu]
      cases he
      rfl
    · cases he

inductive CR where
  | go (ex : Nat) (fr : Nat → AV) (h : AH)      -- 0: on; 1: returns; k + 2: leaves block k
  | pan (v : AV) (h : AH)

def aSeq (E : Env) (K : Caller) (nt : Nat) (ops : List Oper) : List Oper → (Nat → AV) → AH → Option CR
  | [], fr, h => some (.go 0 fr h)
  | o :: rest, fr, h =>
    match okD nt o.dst with
    | false => none
    | true => match aWanted ops fr o with
      | some true => match aOper E K fr h o.op with
        | some (.val v h') => aSeq E K nt ops rest (setF fr o.dst v) h'
        | some (.pan v h') => some (.pan v h')
        | none => none
      | some false => aSeq E K nt ops rest (setF fr o.dst (.tup [])) h
      | none => none

/-- What is to hold behind a piece of code. -/
def CodeR (sz : TypeId → Option Nat) (B : Nat) (W0 : World) (σ : Sig) (nt : Nat) (ds : List Deferred) (Q : Exit → Act → World → Prop) (r : CR) : Prop :=
  match r with
  | .go ex fr h => ∀ a w τ, SE σ τ → R sz B W0 τ h w → FR τ fr a → a.tmps.size = nt → a.defers = ds → Q (match ex with | 0 => .normal | 1 => .ret | k + 2 => .exit k) a w
  | .pan v h => ∀ u a w τ, SE σ τ → R sz B W0 τ h w → VR τ v u → a.tmps.size = nt → a.defers = ds → Q (.panic [{ v := u, recovered := false }]) a w

theorem CodeR.mono {sz : TypeId → Option Nat} {τ : Sig} {nt : Nat} {ds : List Deferred} {Q : Exit → Act → World → Prop} {r : CR} (h : CodeR sz B W0 σ nt ds Q r) (se : SE σ τ) : CodeR sz B W0 τ nt ds Q r := by
  cases r with
  | go ex fr h' => exact fun a w τ' h1 => h a w τ' (se.trans h1)
  | pan v h' => exact fun u a w τ' h1 => h u a w τ' (se.trans h1)

theorem VR.undef (σ : Sig) : VR σ (.tup []) Go.undef := by simp [VR, VRL, Go.undef]

theorem aSeq_sound (ok : EnvT P E) {K : Caller} (okK : CallOK P E.size K) {nt : Nat} {ds : List Deferred} {ops : Array Oper} {Q : Exit → Act → World → Prop} {res : CR} : ∀ (l : List Oper) (k : Nat) (fr : Nat → AV) (h : AH) (σ : Sig) (w : World) (a : Act), (∀ j, l[j]? = ops[k + j]?) → R E.size B W0 σ h w → FR σ fr a → a.tmps.size = nt → a.defers = ds →
    aSeq E K nt ops.toList l fr h = some res → CodeR E.size B W0 σ nt ds Q res → wpOps P ops Q (List.range' k l.length) a w
  | [], k, fr, h, σ, w, a, hl, r, hf, hn, hd, he, hq => by
      simp [aSeq] at he; subst he
      exact hq a w σ (SE.refl _) r hf hn hd
  | o :: l, k, fr, h, σ, w, a, hl, r, hf, hn, hd, he, hq => by
      have h0 : ops[k]? = some o := by simpa using (hl 0).symm
      have hl' : ∀ j, l[j]? = ops[k + 1 + j]? := fun j => by have := hl (j + 1); simpa [Nat.add_assoc, Nat.add_comm 1 j] using this
      simp only [aSeq] at he
      split at he
      · cases he
      rename_i hod
      simp only [List.length_cons, List.range'_succ]
      rw [wpOps_cons]
      unfold wpOp
      simp only [h0]
      split at he
      · rename_i hw
        rw [aWanted_sound hf hw]
        simp only [if_true]
        left
        split at he
        · rename_i v h' hop
          refine aOper_sound ok okK r hf hop fun u w' τ h1 h2 h3 => ?_
          exact aSeq_sound ok okK l (k + 1) _ h' τ w' _ hl' h2 ((hf.mono h1).put hn hod h3) (by rw [Act.size_put]; exact hn) (by rw [Act.defers_put]; exact hd) he (hq.mono h1)
        · rename_i v h' hop
          cases he
          refine aOper_sound ok okK r hf hop fun u w' τ h1 h2 h3 => ?_
          exact hq u a w' τ h1 h2 h3 hn hd
        · cases he
      · rename_i hw
        rw [aWanted_sound hf hw]
        simp only [Bool.false_eq_true, if_false]
        exact aSeq_sound ok okK l (k + 1) _ h σ w _ hl' r (hf.put hn hod (VR.undef σ)) (by rw [Act.size_put]; exact hn) (by rw [Act.defers_put]; exact hd) he hq
      · cases he
end
end Go.Proofs.Yteblojfcalgoeaa

/- The abstract machine: regions that draw their order. Conditions: none. -/
namespace Go.Proofs.Yteblojfcalgoeaa
open Go Go.RowKit

/-! ### An operation looks at its operands alone -/
theorem map_congr_ev {fr fr' : Nat → AV} {l : List Operand} (h : ∀ x ∈ l, ev fr x = ev fr' x) : l.map (ev fr) = l.map (ev fr') := List.map_congr_left h

theorem mem_toList {α : Type} {a : Array α} {x : α} (h : x ∈ a.toList) : x ∈ a := Array.mem_toList_iff.1 h

theorem pairs_congr {fr fr' : Nat → AV} (ps : Array (Nat × Operand)) (hp : ∀ x ∈ ps.toList.map (·.2), ev fr x = ev fr' x) : (ps.toList.map fun p => (p.1, ev fr p.2)) = ps.toList.map fun p => (p.1, ev fr' p.2) :=
  List.map_congr_left fun p hm => by rw [hp p.2 (List.mem_map.2 ⟨p, hm, rfl⟩)]

theorem args_congr {fr fr' : Nat → AV} {c : Call} (hx : ∀ x ∈ c.operands, ev fr x = ev fr' x) : c.args.toList.map (ev fr) = c.args.toList.map (ev fr') :=
  map_congr_ev fun x h => hx x (by simp only [Call.operands]; exact Array.mem_append_right _ (mem_toList h))

theorem qOp_congr {E : Env} {fr fr' : Nat → AV} {h : AH} {op : Op} (hx : ∀ x ∈ op.operands, ev fr x = ev fr' x) : qOp E fr h op = qOp E fr' h op := by
  cases op <;> simp only [Op.operands] at hx <;> simp only [qOp]
  case makeFunc fn first captured =>
    rw [map_congr_ev (l := first.toList) fun x h => hx x (Array.mem_append_left _ (mem_toList h)), map_congr_ev (l := captured.toList) fun x h => hx x (Array.mem_append_right _ (mem_toList h))]
  case slice t x lo hi mx => cases lo <;> cases hi <;> cases mx <;> simp_all
  case call c => rw [args_congr hx]
  all_goals (first | rfl | (simp_all; done))

theorem qStep_congr {E : Env} {fr fr' : Nat → AV} {h : AH} {op : Op} (hx : ∀ x ∈ op.operands, ev fr x = ev fr' x) : qStep E fr h op = qStep E fr' h op := by
  cases op <;> simp only [qStep] <;> try exact qOp_congr hx
  case build t ps => simp only [Op.operands] at hx; rw [pairs_congr ps fun x hx' => hx x (by simpa using hx')]

theorem eOp_congr {E : Env} {fr fr' : Nat → AV} {h : AH} {op : Op} (hx : ∀ x ∈ op.operands, ev fr x = ev fr' x) : eOp E fr h op = eOp E fr' h op := by
  cases op <;> simp only [Op.operands] at hx <;> simp only [eOp]
  case build t ps => rw [pairs_congr ps fun x hx' => hx x (by simpa using hx')]
  case buildSlice t n ps => rw [pairs_congr ps fun x hx' => hx x (by simpa using hx')]
  case call c => rw [args_congr hx]
  case makeMap t m => cases m <;> rfl
  all_goals (first | rfl | (simp_all; done))

theorem aOper_congr {E : Env} {K : Caller} {fr fr' : Nat → AV} {h : AH} {op : Op} (hx : ∀ x ∈ op.operands, ev fr x = ev fr' x) : aOper E K fr h op = aOper E K fr' h op := by
  have g : (match qStep E fr h op with
    | some v => some (.val v h)
    | none => match eOp E fr h op with
      | some (v, h') => some (.val v h')
      | none => none : Option SR) = (match qStep E fr' h op with
    | some v => some (.val v h)
    | none => match eOp E fr' h op with
      | some (v, h') => some (.val v h')
      | none => none : Option SR) := by rw [qStep_congr hx, eOp_congr hx]
  cases op <;> try exact g
  case panic x => simp only [aOper]; rw [hx x (by simp [Op.operands])]
  case call c =>
    have h1 : qOp E fr h (.call c) = qOp E fr' h (.call c) := qOp_congr hx
    have h2 : eOp E fr h (.call c) = eOp E fr' h (.call c) := eOp_congr hx
    have h3 := args_congr (c := c) hx
    simp only [aOper]
    rw [h1, h2, h3]
    cases hc : c.callee with
    | value f => simp only; rw [hx f (by simp [Op.operands, Call.operands, hc])]
    | invoke r m => simp only; rw [hx r (by simp [Op.operands, Call.operands, hc])]
    | builtin b => rfl

theorem ev_setF {fr : Nat → AV} {d : Option Tmp} {v : AV} {x : Operand} (h : ∀ t, d = some t → x ≠ .tmp t) : ev (setF fr d v) x = ev fr x := by
  cases d with
  | none => rfl
  | some t =>
    cases x with
    | tmp j =>
      have hne : j ≠ t := fun e => h t rfl (by rw [e])
      simp only [ev, setF, beqF hne, cond_false]
    | _ => rfl

theorem setF_comm {fr : Nat → AV} {d e : Option Tmp} {v u : AV} (h : ∀ t, d = some t → e ≠ some t) : setF (setF fr d v) e u = setF (setF fr e u) d v := by
  cases d with
  | none => rfl
  | some t =>
    cases e with
    | none => rfl
    | some s =>
      have hne : s ≠ t := fun e => h t rfl (by rw [e])
      funext j
      simp only [setF]
      cases h1 : Nat.beq j s <;> cases h2 : Nat.beq j t <;> try rfl
      have a1 := Nat.eq_of_beq_eq_true h1
      have a2 := Nat.eq_of_beq_eq_true h2
      exact absurd (a1.symm.trans a2) hne

section
variable {ops : Array Oper}

theorem looks_operand {o : Oper} {t : Tmp} (h : t ∉ o.looksAt ops) : Operand.tmp t ∉ o.op.operands := fun hm =>
  h (List.mem_append_left _ (List.mem_filterMap.2 ⟨.tmp t, by simpa using hm, rfl⟩))

theorem op_setF {fr : Nat → AV} {o : Oper} {d : Option Tmp} {v : AV} (h : ∀ t, d = some t → t ∉ o.looksAt ops) : ∀ x ∈ o.op.operands, ev (setF fr d v) x = ev fr x := fun x hx =>
  ev_setF fun t ht e => looks_operand (h t ht) (e ▸ hx)

theorem aWanted_setF {fr : Nat → AV} {o : Oper} {d : Option Tmp} {v : AV} (h : ∀ t, d = some t → t ∉ o.looksAt ops) : aWanted ops.toList (setF fr d v) o = aWanted ops.toList fr o := by
  unfold aWanted
  cases hg : o.guard with
  | none => rfl
  | some jw =>
    obtain ⟨j, want⟩ := jw
    simp only
    cases hj : ops.toList[j]? with
    | none => rfl
    | some g =>
      simp only
      cases ht : g.dst with
      | none => rfl
      | some t =>
        simp only
        have hj' : ops[j]? = some g := by rw [← Array.getElem?_toList]; exact hj
        have hin : t ∈ o.looksAt ops := by simp [Oper.looksAt, hg, hj', ht]
        have : setF fr d v t = fr t := by
          cases d with
          | none => rfl
          | some s =>
            have hne : t ≠ s := fun e => h s rfl (e ▸ hin)
            simp only [setF, beqF hne, cond_false]
        rw [this]
end

/-! ### Equality of values -/
mutual
def AV.eqv : AV → AV → Bool
  | .bool a, .bool b => a == b
  | .int k a, .int k' b => decide (k = k') && a == b
  | .str a, .str b => a == b
  | .ptr i o, .ptr j p => Nat.beq i j && Nat.beq o p
  | .nilp, .nilp => true
  | .sl i o n c l, .sl j p m d k => Nat.beq i j && (Nat.beq o p && (Nat.beq n m && (Nat.beq c d && l == k)))
  | .emp, .emp => true
  | .nils, .nils => true
  | .map i, .map j => Nat.beq i j
  | .nilm, .nilm => true
  | .fn f a b, .fn g c d => decide (f = g) && (AV.eqvL a c && AV.eqvL b d)
  | .nilf, .nilf => true
  | .iface t v, .iface u x => Nat.beq t u && AV.eqv v x
  | .nili, .nili => true
  | .agg a, .agg b => AV.eqvL a b
  | .tup a, .tup b => AV.eqvL a b
  | .bad, .bad => true
  | _, _ => false
def AV.eqvL : List AV → List AV → Bool
  | [], [] => true
  | x :: xs, y :: ys => AV.eqv x y && AV.eqvL xs ys
  | _, _ => false
end

mutual
theorem AV.eq_of_eqv : ∀ (a b : AV), AV.eqv a b = true → a = b
  | .bool a, b, h => by cases b <;> simp_all [AV.eqv]
  | .int k a, b, h => by cases b <;> simp_all [AV.eqv]
  | .str a, b, h => by cases b <;> simp_all [AV.eqv]
  | .ptr i o, b, h => by cases b <;> simp_all [AV.eqv]
  | .nilp, b, h => by cases b <;> simp_all [AV.eqv]
  | .sl i o n c l, b, h => by cases b <;> simp_all [AV.eqv]
  | .emp, b, h => by cases b <;> simp_all [AV.eqv]
  | .nils, b, h => by cases b <;> simp_all [AV.eqv]
  | .map i, b, h => by cases b <;> simp_all [AV.eqv]
  | .nilm, b, h => by cases b <;> simp_all [AV.eqv]
  | .fn f a c, b, h => by
      cases b <;> simp only [AV.eqv, Bool.and_eq_true, decide_eq_true_eq, Bool.false_eq_true] at h
      obtain ⟨h1, h2, h3⟩ := h
      rw [h1, AV.eq_of_eqvL _ _ h2, AV.eq_of_eqvL _ _ h3]
  | .nilf, b, h => by cases b <;> simp_all [AV.eqv]
  | .iface t v, b, h => by
      cases b <;> simp only [AV.eqv, Bool.and_eq_true, Bool.false_eq_true] at h
      rw [Nat.eq_of_beq_eq_true h.1, AV.eq_of_eqv _ _ h.2]
  | .nili, b, h => by cases b <;> simp_all [AV.eqv]
  | .agg a, b, h => by
      cases b <;> simp only [AV.eqv, Bool.false_eq_true] at h
      rw [AV.eq_of_eqvL _ _ h]
  | .tup a, b, h => by
      cases b <;> simp only [AV.eqv, Bool.false_eq_true] at h
      rw [AV.eq_of_eqvL _ _ h]
  | .bad, b, h => by cases b <;> simp_all [AV.eqv]
theorem AV.eq_of_eqvL : ∀ (a b : List AV), AV.eqvL a b = true → a = b
  | [], b, h => by cases b <;> simp_all [AV.eqvL]
  | x :: xs, b, h => by
      cases b <;> simp only [AV.eqvL, Bool.and_eq_true, Bool.false_eq_true] at h
      rw [AV.eq_of_eqv _ _ h.1, AV.eq_of_eqvL _ _ h.2]
end

/-! ### Which operations turn the heap -/
def quietOp (E : Env) : Op → Bool
  | .move _ | .assign _ | .pick .. | .load .. | .nilCheck _ | .binOp .. | .unOp .. | .sliceToArrayPointer .. | .makeInterface .. | .makeFunc .. | .slice .. | .fieldAddr .. | .field .. | .indexAddr .. | .index .. | .lookup .. | .typeAssert .. | .extract .. | .build .. => true
  | .convert _ d _ => match E.ty d with
    | some i => match i.und with
      | .slice _ => false
      | _ => true
    | none => false
  | .call c => match c.callee with
    | .builtin .len | .builtin .min | .builtin .max => true
    | _ => false
  | _ => false

abbrev Past := Nat → AH → Bool

def aDraw (E : Env) (K : Caller) (prec : Nat → Nat → Bool) (nt : Nat) (ops : List Oper) : List Nat → Past → (Nat → AV) → AH → Option CR
  | [], _, fr, h => some (.go 0 fr h)
  | i :: rest, past, fr, h =>
    match ops[i]? with
    | none => none
    | some o =>
      match okD nt o.dst with
      | false => none
      | true =>
        match aWanted ops fr o with
        | none => none
        | some false => aDraw E K prec nt ops rest past (setF fr o.dst (.tup [])) h
        | some true =>
          bif quietOp E o.op then
            match qStep E fr h o.op with
            | some v => aDraw E K prec nt ops rest (fun j h' => past j h' && (prec i j || (match qStep E fr h' o.op with | some u => AV.eqv u v | none => false))) (setF fr o.dst v) h
            | none => none
          else
            match aOper E K fr h o.op with
            | some (.val v h') => bif past i h' then aDraw E K prec nt ops rest past (setF fr o.dst v) h' else none
            | some (.pan v h') => some (.pan v h')
            | none => none
end Go.Proofs.Yteblojfcalgoeaa

/- The abstract machine: regions that draw their order are sound. Conditions: none. -/
namespace Go.Proofs.Yteblojfcalgoeaa
open Go Go.RowKit

section
variable {P : Program} {E : Env} {K : Caller} {prec : Nat → Nat → Bool} {nt : Nat} {ops : Array Oper}

theorem draw_cons_mono {l1 l2 : List Nat} (hl : ∀ past fr h res, aDraw E K prec nt ops.toList l1 past fr h = some res → aDraw E K prec nt ops.toList l2 past fr h = some res) (q : Nat) (past : Past) (fr : Nat → AV) (h : AH) (res : CR)
    (he : aDraw E K prec nt ops.toList (q :: l1) past fr h = some res) : aDraw E K prec nt ops.toList (q :: l2) past fr h = some res := by
  simp only [aDraw] at he ⊢
  cases ho : ops.toList[q]? with
  | none => rw [ho] at he; cases he
  | some o =>
    simp only [ho] at he ⊢
    cases hod : okD nt o.dst
    · rw [hod] at he; cases he
    · simp only [hod] at he ⊢
      cases hw : aWanted ops.toList fr o with
      | none => rw [hw] at he; cases he
      | some b =>
        simp only [hw] at he ⊢
        cases b
        · exact hl _ _ _ _ he
        · simp only at he ⊢
          cases hq : quietOp E o.op
          · simp only [hq, cond_false] at he ⊢
            cases hop : aOper E K fr h o.op with
            | none => rw [hop] at he; cases he
            | some sr =>
              simp only [hop] at he ⊢
              cases sr with
              | val v h' =>
                simp only at he ⊢
                cases hp : past q h'
                · rw [hp] at he; cases he
                · simp only [hp, cond_true] at he ⊢; exact hl _ _ _ _ he
              | pan v h' => exact he
          · simp only [hq, cond_true] at he ⊢
            cases hv : qStep E fr h o.op with
            | none => rw [hv] at he; cases he
            | some v =>
              simp only [hv] at he ⊢
              exact hl _ _ _ _ he

theorem past_comm (past : Past) (A C : Nat → AH → Bool) : (fun j h' => (past j h' && A j h') && C j h') = (fun j h' => (past j h' && C j h') && A j h') := by
  funext j h'
  cases past j h' <;> cases A j h' <;> cases C j h' <;> rfl

theorem swap2 {q i : Nat} {oq oi : Oper} (hq : ops[q]? = some oq) (hi : ops[i]? = some oi) (hap : oq.apart ops oi = true) (hqq : quietOp E oq.op = true) (hpr : prec q i = false) (t : List Nat) (past : Past) (fr : Nat → AV) (h : AH) (res : CR)
    (he : aDraw E K prec nt ops.toList (q :: i :: t) past fr h = some res) : aDraw E K prec nt ops.toList (i :: q :: t) past fr h = some res := by
  obtain ⟨a1, a2, a3⟩ := Oper.apart_spec hap
  have hq' : ops.toList[q]? = some oq := by rw [Array.getElem?_toList]; exact hq
  have hi' : ops.toList[i]? = some oi := by rw [Array.getElem?_toList]; exact hi
  have e1 : ∀ (fr : Nat → AV) v, aWanted ops.toList (setF fr oq.dst v) oi = aWanted ops.toList fr oi := fun fr v => aWanted_setF a1
  have e2 : ∀ (fr : Nat → AV) v, aWanted ops.toList (setF fr oi.dst v) oq = aWanted ops.toList fr oq := fun fr v => aWanted_setF a3
  have e3 : ∀ (fr : Nat → AV) v h, qStep E (setF fr oq.dst v) h oi.op = qStep E fr h oi.op := fun fr v h => qStep_congr (op_setF a1)
  have e3' : ∀ (fr : Nat → AV) v h, aOper E K (setF fr oq.dst v) h oi.op = aOper E K fr h oi.op := fun fr v h => aOper_congr (op_setF a1)
  have e4 : ∀ (fr : Nat → AV) v h, qStep E (setF fr oi.dst v) h oq.op = qStep E fr h oq.op := fun fr v h => qStep_congr (op_setF a3)
  have e5 : ∀ (fr : Nat → AV) v u, setF (setF fr oq.dst v) oi.dst u = setF (setF fr oi.dst u) oq.dst v := fun fr v u => setF_comm a2
  simp only [aDraw, hq', hi', hqq, cond_true, e1, e2, e3, e3', e4, e5] at he ⊢
  cases h1 : okD nt oq.dst
  · rw [h1] at he; cases he
  cases h2 : okD nt oi.dst
  · exfalso
    simp only [h1, h2] at he
    split at he
    · cases he
    · cases he
    · split at he <;> cases he
  simp only [h1, h2] at he ⊢
  cases h3 : aWanted ops.toList fr oq with
  | none => rw [h3] at he; cases he
  | some bq =>
    cases h4 : aWanted ops.toList fr oi with
    | none =>
      exfalso
      simp only [h3, h4] at he
      cases bq
      · cases he
      · simp only at he
        split at he <;> cases he
    | some bi =>
      simp only [h3, h4] at he ⊢
      cases bq
      · -- q is not wanted
        simp only at he ⊢
        cases bi
        · simp only at he ⊢
          exact he
        · simp only at he ⊢
          exact he
      · simp only at he ⊢
        cases h5 : qStep E fr h oq.op with
        | none => rw [h5] at he; cases he
        | some v =>
          simp only [h5] at he ⊢
          cases bi
          · simp only at he ⊢
            exact he
          · simp only at he ⊢
            cases h6 : quietOp E oi.op
            · simp only [h6, cond_false] at he ⊢
              split at he
              · rename_i u h' hop
                cases hp : past i h'
                · simp only [hp, Bool.false_and, cond_false] at he; cases he
                · simp only [hp, Bool.true_and, hpr, Bool.false_or] at he
                  cases h7 : qStep E fr h' oq.op with
                  | none => simp only [h7, cond_false] at he; cases he
                  | some x =>
                    simp only [h7] at he
                    cases h8 : AV.eqv x v
                    · simp only [h8, cond_false] at he; cases he
                    · have := AV.eq_of_eqv _ _ h8
                      subst this
                      simp only [h8, cond_true] at he
                      simp only [hp, cond_true, h7]
                      exact he
              · rename_i u h' hop
                exact he
              · cases he
            · simp only [h6, cond_true] at he ⊢
              split at he
              · rename_i u hu
                rw [past_comm past]
                exact he
              · cases he

theorem move_front {i : Nat} {oi : Oper} (hi : ops[i]? = some oi) : ∀ (p s : List Nat), (∀ q ∈ p, ∃ oq, ops[q]? = some oq ∧ oq.apart ops oi = true ∧ quietOp E oq.op = true ∧ prec q i = false ∧ prec i q = false) → ∀ (past : Past) (fr : Nat → AV) (h : AH) (res : CR),
    aDraw E K prec nt ops.toList (p ++ i :: s) past fr h = some res → aDraw E K prec nt ops.toList (i :: (p ++ s)) past fr h = some res
  | [], s, _, past, fr, h, res, he => he
  | q :: p, s, hp, past, fr, h, res, he => by
      obtain ⟨oq, h1, h2, h3, h4, h5⟩ := hp q (by simp)
      have h6 := draw_cons_mono (l1 := p ++ i :: s) (l2 := i :: (p ++ s)) (fun past fr h res => move_front hi p s (fun q hq => hp q (by simp [hq])) past fr h res) q past fr h res he
      exact swap2 h1 hi h2 h3 h4 _ _ _ _ _ h6
end

/-! ### The order that is walked, and why it serves every order -/
def maskOf (acc : List Nat) (o : Oper) : Nat := o.after.toList.foldl (fun s e => bif Region.binds .any e then s ||| (2 ^ e.on ||| acc.getD e.on 0) else s) 0
def masks : List Oper → List Nat → List Nat
  | [], acc => acc
  | o :: os, acc => masks os (acc ++ [maskOf acc o])
def precOf (ms : List Nat) (i j : Nat) : Bool := (ms.getD j 0).testBit i

def pairOK (E : Env) (ops : Array Oper) (prec : Nat → Nat → Bool) (a b : Nat) : Bool :=
  match ops.toList[a]?, ops.toList[b]? with
  | some x, some y => !prec b a && ((quietOp E x.op || prec a b) && (prec a b || x.apart ops y))
  | _, _ => false
def pairsOK (E : Env) (ops : Array Oper) (prec : Nat → Nat → Bool) : List Nat → Bool
  | [] => true
  | a :: r => r.all (pairOK E ops prec a) && pairsOK E ops prec r
/-- Every edge that binds is in the table, and leads to an operation of the region. -/
def edgesOK (ops : List Oper) (prec : Nat → Nat → Bool) : Nat → List Oper → Bool
  | _, [] => true
  | j, o :: os => o.after.toList.all (fun e => !Region.binds .any e || (prec e.on j && (Nat.blt e.on ops.length && !Nat.beq e.on j))) && edgesOK ops prec (j + 1) os
def nodupB : List Nat → Bool
  | [] => true
  | a :: r => !r.contains a && nodupB r
theorem nodupB_spec : ∀ {l : List Nat}, nodupB l = true → l.Nodup
  | [], _ => List.nodup_nil
  | a :: r, h => by
      simp only [nodupB, Bool.and_eq_true, Bool.not_eq_true'] at h
      exact List.nodup_cons.2 ⟨fun hm => by have := h.1; simp [hm] at this, nodupB_spec h.2⟩
def planOK (E : Env) (ops : Array Oper) (ms : List Nat) (ord : List Nat) : Bool :=
  Nat.beq ord.length ops.toList.length && (nodupB ord && (ord.all (fun i => Nat.blt i ops.toList.length) && ((List.range ops.toList.length).all (fun i => ord.contains i) && (pairsOK E ops (precOf ms) ord && edgesOK ops.toList (precOf ms) 0 ops.toList))))

inductive Reach (ops : Array Oper) : Nat → Nat → Prop
  | direct {a b : Nat} {o : Oper} {e : Edge} : ops[b]? = some o → e ∈ o.after → Region.binds .any e = true → e.on = a → Reach ops a b
  | step {a b c : Nat} {o : Oper} {e : Edge} : ops[b]? = some o → e ∈ o.after → Region.binds .any e = true → e.on = c → Reach ops a c → Reach ops a b

section
variable {ops : Array Oper}

theorem maskOf_sound {acc : List Nat} {b : Nat} {o : Oper} (hb : ops[b]? = some o) (hacc : ∀ j i, (acc.getD j 0).testBit i = true → Reach ops i j) : ∀ i, (maskOf acc o).testBit i = true → Reach ops i b := by
  have key : ∀ (l : List Edge) (s : Nat), (∀ e ∈ l, e ∈ o.after) → (∀ i, s.testBit i = true → Reach ops i b) →
      ∀ i, (l.foldl (fun s e => bif Region.binds .any e then s ||| (2 ^ e.on ||| acc.getD e.on 0) else s) s).testBit i = true → Reach ops i b := by
    intro l
    induction l with
    | nil => intro s _ hs i h; exact hs i h
    | cons e l ih =>
      intro s hl hs i h
      refine ih _ (fun x hx => hl x (by simp [hx])) (fun i h => ?_) i h
      simp only at h
      cases hbd : Region.binds .any e
      · rw [hbd] at h; exact hs i h
      · rw [hbd] at h
        simp only [cond_true, Nat.testBit_or, Bool.or_eq_true] at h
        rcases h with h | h | h
        · exact hs i h
        · have : e.on = i := by simpa [Nat.testBit_two_pow] using h
          exact .direct hb (hl e (by simp)) hbd this
        · exact .step hb (hl e (by simp)) hbd rfl (hacc _ _ h)
  intro i h
  exact key o.after.toList 0 (fun e he => mem_toList he) (fun i h => by simp at h) i h

theorem masks_sound : ∀ (l : List Oper) (acc : List Nat), (∀ j, l[j]? = ops[acc.length + j]?) → (∀ j i, (acc.getD j 0).testBit i = true → Reach ops i j) →
    ∀ j i, ((masks l acc).getD j 0).testBit i = true → Reach ops i j
  | [], acc, _, h => h
  | o :: l, acc, hl, h => by
      simp only [masks]
      have h0 : ops[acc.length]? = some o := by simpa using (hl 0).symm
      refine masks_sound l _ (fun j => ?_) fun j i hb => ?_
      · have := hl (j + 1)
        simp only [List.getElem?_cons_succ] at this
        rw [this]
        simp
        congr 1
        omega
      · by_cases hj : j < acc.length
        · rw [List.getD_eq_getElem?_getD, List.getElem?_append_left hj, ← List.getD_eq_getElem?_getD] at hb
          exact h j i hb
        · rw [List.getD_eq_getElem?_getD, List.getElem?_append_right (by omega)] at hb
          by_cases hj2 : j - acc.length = 0
          · have : j = acc.length := by omega
            subst this
            simp at hb
            exact maskOf_sound h0 h i hb
          · have : ([maskOf acc o] : List Nat)[j - acc.length]? = none := by
              rw [List.getElem?_eq_none]; simp; omega
            rw [this] at hb
            simp at hb

theorem prec_reach {i j : Nat} (h : precOf (masks ops.toList []) i j = true) : Reach ops i j :=
  masks_sound ops.toList [] (fun j => by simp [Array.getElem?_toList]) (fun j i h => by simp at h) j i h

/-- What is listed is closed: whatever binds a listed operation is listed. -/
def Closed (ops : Array Oper) (listed : Array Bool) : Prop := ∀ j o, ops[j]? = some o → listed.getD j false = true → ∀ e ∈ o.after, Region.binds .any e = true → listed.getD e.on false = true

theorem Closed.reach {listed : Array Bool} (h : Closed ops listed) : ∀ {a b : Nat}, Reach ops a b → listed.getD b false = true → listed.getD a false = true := by
  intro a b hr
  induction hr with
  | direct hb he hbd hon => intro hl; rw [← hon]; exact h _ _ hb hl _ he hbd
  | step hb he hbd hon _ ih => intro hl; exact ih (by rw [← hon]; exact h _ _ hb hl _ he hbd)

theorem reach_ready {listed : Array Bool} (h : Closed ops listed) {i : Nat} {o : Oper} (ho : ops[i]? = some o) (hr : ∀ e ∈ o.after, Region.binds .any e = true → listed.getD e.on false = true) {a : Nat} (ha : Reach ops a i) : listed.getD a false = true := by
  cases ha with
  | direct hb he hbd hon => rw [hb] at ho; cases ho; rw [← hon]; exact hr _ he hbd
  | step hb he hbd hon hr' => rw [hb] at ho; cases ho; exact h.reach hr' (by rw [← hon]; exact hr _ he hbd)

theorem pairsOK_split {E : Env} {prec : Nat → Nat → Bool} : ∀ {p s : List Nat} {i : Nat}, pairsOK E ops prec (p ++ i :: s) = true →
    (∀ q ∈ p, pairOK E ops prec q i = true) ∧ pairsOK E ops prec (p ++ s) = true
  | [], s, i, h => by
      simp only [List.nil_append, pairsOK, Bool.and_eq_true] at h
      exact ⟨by simp, h.2⟩
  | q :: p, s, i, h => by
      simp only [List.cons_append, pairsOK, Bool.and_eq_true, List.all_append, List.all_cons] at h
      obtain ⟨⟨h1, h2, h3⟩, h4⟩ := h
      obtain ⟨h5, h6⟩ := pairsOK_split h4
      refine ⟨fun x hx => ?_, ?_⟩
      · simp only [List.mem_cons] at hx
        rcases hx with rfl | hx
        · exact h2
        · exact h5 x hx
      · simp only [List.cons_append, pairsOK, Bool.and_eq_true, List.all_append]
        exact ⟨⟨h1, h3⟩, h6⟩

theorem edgesOK_get {prec : Nat → Nat → Bool} {all : List Oper} : ∀ {l : List Oper} {j : Nat}, edgesOK all prec j l = true → ∀ k o, l[k]? = some o → ∀ e ∈ o.after, Region.binds .any e = true → prec e.on (j + k) = true ∧ e.on < all.length ∧ e.on ≠ j + k
  | [], _, _, k, o, ho, _, _, _ => by simp at ho
  | x :: l, j, h, k, o, ho, e, he, hb => by
      simp only [edgesOK, Bool.and_eq_true, List.all_eq_true] at h
      cases k with
      | zero =>
        simp at ho; subst ho
        have := h.1 e (Array.mem_toList_iff.2 he)
        simp only [hb, Bool.not_true, Bool.false_or, Bool.and_eq_true] at this
        refine ⟨by simpa using this.1, blt_lt this.2.1, fun hc => ?_⟩
        have h3 := this.2.2
        rw [Nat.add_zero] at hc
        rw [hc] at h3
        simp at h3
      | succ k =>
        simp at ho
        have := edgesOK_get h.2 k o ho e he hb
        rw [show j + (k + 1) = j + 1 + k from by omega]
        exact this
end

section
variable {P : Program} {E : Env} {K : Caller} {nt : Nat} {ops : Array Oper} {B : Nat} {W0 : World}

theorem draw_sound (ok : EnvT P E) (okK : CallOK P E.size K) {ds : List Deferred} {Q : Exit → Act → World → Prop} {res : CR} (hedge : edgesOK ops.toList (precOf (masks ops.toList [])) 0 ops.toList = true) :
    ∀ (n : Nat) (ord : List Nat) (listed : Array Bool) (past : Past) (fr : Nat → AV) (h : AH) (σ : Sig) (w : World) (a : Act), ord.length = n → listed.size = ops.size → (∀ i, i < ops.size → (listed.getD i false = false ↔ i ∈ ord)) → (∀ i ∈ ord, i < ops.size) → ord.Nodup →
      pairsOK E ops (precOf (masks ops.toList [])) ord = true → Closed ops listed → R E.size B W0 σ h w → FR σ fr a → a.tmps.size = nt → a.defers = ds →
      aDraw E K (precOf (masks ops.toList [])) nt ops.toList ord past fr h = some res → CodeR E.size B W0 σ nt ds Q res → wpAny P .any ops Q n listed a w := by
  intro n
  induction n with
  | zero =>
    intro ord listed past fr h σ w a hn hsz hun hlt hnd hpo hcl r hf ht hd he hq
    have : ord = [] := List.eq_nil_of_length_eq_zero hn
    subst this
    refine ⟨?_, ?_⟩
    · rw [List.eq_nil_iff_forall_not_mem]
      intro j hj
      obtain ⟨h0, o, ho, _⟩ := mem_ready.1 hj
      have hjl : j < ops.size := (Array.getElem?_eq_some_iff.1 ho).1
      have h1 : listed.getD j false = false := by
        rw [Array.getD_eq_getD_getElem?] at h0 ⊢
        have : j < listed.size := by omega
        rw [Array.getElem?_eq_getElem this] at h0 ⊢
        simpa using h0
      have := (hun j hjl).1 h1
      simp at this
    · simp [aDraw] at he; subst he
      exact hq a w σ (SE.refl _) r hf ht hd
  | succ n ih =>
    intro ord listed past fr h σ w a hn hsz hun hlt hnd hpo hcl r hf ht hd he hq
    have getDs : ∀ j, j < ops.size → (listed.getD j true = false ↔ listed.getD j false = false) := fun j hj => by
      rw [Array.getD_eq_getD_getElem?, Array.getD_eq_getD_getElem?, Array.getElem?_eq_getElem (by omega : j < listed.size)]
      simp
    refine ⟨fun hnil => ?_, fun i hi => ?_⟩
    · -- the first of the order is ready
      exfalso
      cases ord with
      | nil => simp at hn
      | cons x rest =>
        have hx : x < ops.size := hlt x (by simp)
        have hmem : x ∈ Region.ready .any ops listed := by
          rw [mem_ready]
          refine ⟨(getDs x hx).2 ((hun x hx).2 (by simp)), ops[x], Array.getElem?_eq_getElem hx, fun e he' hb => ?_⟩
          obtain ⟨h1, h2, h3⟩ := edgesOK_get hedge x ops[x] (by rw [Array.getElem?_toList]; exact Array.getElem?_eq_getElem hx) e he' hb
          rw [Nat.zero_add] at h1 h3
          simp at h2
          cases hl : listed.getD e.on false with
          | true => rfl
          | false =>
            exfalso
            have hin := (hun e.on h2).1 hl
            simp only [pairsOK, Bool.and_eq_true, List.all_eq_true] at hpo
            simp only [List.mem_cons] at hin
            rcases hin with hin | hin
            · exact h3 hin
            · have := hpo.1 e.on hin
              simp only [pairOK] at this
              split at this
              · simp only [h1, Bool.not_true, Bool.false_and, Bool.false_eq_true] at this
              · cases this
        rw [hnil] at hmem
        cases hmem
    · obtain ⟨h0, oi, hoi, hready⟩ := mem_ready.1 hi
      have hil : i < ops.size := (Array.getElem?_eq_some_iff.1 hoi).1
      have hio : i ∈ ord := (hun i hil).1 ((getDs i hil).1 h0)
      obtain ⟨p, s, rfl⟩ := List.append_of_mem hio
      obtain ⟨hpi, hps⟩ := pairsOK_split hpo
      have hfront : ∀ q ∈ p, ∃ oq, ops[q]? = some oq ∧ oq.apart ops oi = true ∧ quietOp E oq.op = true ∧ precOf (masks ops.toList []) q i = false ∧ precOf (masks ops.toList []) i q = false := by
        intro q hq'
        have hql : q < ops.size := hlt q (by simp [hq'])
        have hqu : listed.getD q false = false := (hun q hql).2 (by simp [hq'])
        have hnp : precOf (masks ops.toList []) q i = false := by
          cases hc : precOf (masks ops.toList []) q i with
          | false => rfl
          | true =>
            have := reach_ready hcl hoi hready (prec_reach hc)
            rw [hqu] at this; cases this
        have := hpi q hq'
        simp only [pairOK] at this
        split at this
        · rename_i x y hx hy
          have hx' : ops[q]? = some x := by rw [← Array.getElem?_toList]; exact hx
          have hy' : ops[i]? = some y := by rw [← Array.getElem?_toList]; exact hy
          rw [hoi] at hy'; cases hy'
          simp only [hnp, Bool.or_false, Bool.false_or, Bool.and_eq_true, Bool.not_eq_true'] at this
          exact ⟨x, hx', this.2.2, this.2.1, hnp, this.1⟩
        · cases this
      have he2 := move_front hoi p s hfront past fr h res he
      -- one step
      have hoi' : ops.toList[i]? = some oi := by rw [Array.getElem?_toList]; exact hoi
      simp only [aDraw, hoi'] at he2
      have hnd' : (p ++ s).Nodup ∧ i ∉ p ++ s := by
        obtain ⟨n1, n2, n3⟩ := List.nodup_append.1 hnd
        rw [List.nodup_cons] at n2
        refine ⟨List.nodup_append.2 ⟨n1, n2.2, fun x hx y hy => n3 x hx y (by simp [hy])⟩, fun hc => ?_⟩
        rw [List.mem_append] at hc
        rcases hc with hc | hc
        · exact n3 i hc i (by simp) rfl
        · exact n2.1 hc
      have next : ∀ past' fr' h' τ w' a', SE σ τ → R E.size B W0 τ h' w' → FR τ fr' a' → a'.tmps.size = nt → a'.defers = ds → aDraw E K (precOf (masks ops.toList [])) nt ops.toList (p ++ s) past' fr' h' = some res → wpAny P .any ops Q n (listed.setIfInBounds i true) a' w' := by
        intro past' fr' h' τ w' a' se r' hf' ht' hd' he'
        refine ih (p ++ s) _ past' fr' h' τ w' a' (by simp at hn ⊢; omega) (by simpa using hsz) (fun j hj => ?_) (fun j hj => hlt j (by simp at hj ⊢; rcases hj with hj | hj <;> simp [hj])) hnd'.1 hps ?_ r' hf' ht' hd' he' (hq.mono se)
        · by_cases hji : j = i
          · subst hji
            refine ⟨fun hc => ?_, fun hc => absurd hc hnd'.2⟩
            rw [Array.getD_eq_getD_getElem?, Array.getElem?_setIfInBounds_self_of_lt (by omega)] at hc
            cases hc
          · rw [getD_set_ne false (Ne.symm hji), hun j hj]
            simp [hji]
        · intro j o ho hl e he'' hb
          by_cases hji : j = i
          · subst hji
            rw [hoi] at ho; cases ho
            exact getD_set_true (hready e he'' hb)
          · rw [getD_set_ne false (Ne.symm hji)] at hl
            exact getD_set_true (hcl j o ho hl e he'' hb)
      unfold wpOp
      simp only [hoi]
      split at he2
      · cases he2
      rename_i hod
      split at he2
      · cases he2
      · rename_i hw
        rw [aWanted_sound hf hw]
        simp only [Bool.false_eq_true, if_false]
        exact next _ _ _ σ w _ (SE.refl _) r (hf.put ht hod (VR.undef σ)) (by rw [Act.size_put]; exact ht) (by rw [Act.defers_put]; exact hd) he2
      · rename_i hw
        rw [aWanted_sound hf hw]
        simp only [if_true]
        left
        cases hqo : quietOp E oi.op
        · rw [hqo] at he2
          simp only [cond_false] at he2
          split at he2
          · rename_i v h' hop
            cases hpast : past i h'
            · rw [hpast] at he2; cases he2
            · rw [hpast] at he2
              refine aOper_sound ok okK r hf hop fun u w' τ h1 h2 h3 => ?_
              exact next _ _ _ τ w' _ h1 h2 ((hf.mono h1).put ht hod h3) (by rw [Act.size_put]; exact ht) (by rw [Act.defers_put]; exact hd) he2
          · rename_i v h' hop
            cases he2
            refine aOper_sound ok okK r hf hop fun u w' τ h1 h2 h3 => ?_
            exact hq u a w' τ h1 h2 h3 ht hd
          · cases he2
        · rw [hqo] at he2
          simp only [cond_true] at he2
          split at he2
          · rename_i v hv
            obtain ⟨u, hu, hr⟩ := qStep_sound (P := P) ok r hf hv
            unfold Oper.wp
            rw [hu, Oper.upon_value]
            exact next _ _ _ σ w _ (SE.refl _) r (hf.put ht hod hr) (by rw [Act.size_put]; exact ht) (by rw [Act.defers_put]; exact hd) he2
          · cases he2
end
end Go.Proofs.Yteblojfcalgoeaa

/- The abstract machine: code and calls; what it answers, the model answers. Conditions: none. -/
namespace Go.Proofs.Yteblojfcalgoeaa
open Go Go.RowKit

/-! ### The order for a region that draws: what only reads as early as it may -/
def readyB (ops : List Oper) (done : List Nat) (i : Nat) : Bool :=
  match ops[i]? with
  | some o => o.after.toList.all fun e => !Region.binds .any e || done.contains e.on
  | none => false
def quietAt (E : Env) (ops : List Oper) (i : Nat) : Bool :=
  match ops[i]? with
  | some o => quietOp E o.op
  | none => false
def planGo (E : Env) (ops : List Oper) : Nat → List Nat → List Nat → List Nat
  | 0, _, _ => []
  | n + 1, left, done =>
    match left.find? (fun i => quietAt E ops i && readyB ops done i) with
    | some i => i :: planGo E ops n (left.filter (fun j => !Nat.beq j i)) (i :: done)
    | none => match left.find? (readyB ops done) with
      | some i => i :: planGo E ops n (left.filter (fun j => !Nat.beq j i)) (i :: done)
      | none => []
def planOf (E : Env) (ops : List Oper) : List Nat := planGo E ops ops.length (List.range ops.length) []

/-- The plan, where it is one. -/
def planFor (E : Env) (ops : Array Oper) : Option (List Nat) :=
  bif planOK E ops (masks ops.toList []) (planOf E ops.toList) then some (planOf E ops.toList) else none

def aRegion (E : Env) (K : Caller) (nt : Nat) (ops : Array Oper) (draw : Bool) (fr : Nat → AV) (h : AH) : Option CR :=
  match draw with
  | false => aSeq E K nt ops.toList ops.toList fr h
  | true => match planFor E ops with
    | some ord => aDraw E K (precOf (masks ops.toList [])) nt ops.toList ord (fun _ _ => true) fr h
    | none => none

def aLoop (f : (Nat → AV) → AH → Option CR) : Nat → (Nat → AV) → AH → Option CR
  | 0, _, _ => none
  | n + 1, fr, h => match f fr h with
    | some (.go 0 fr' h') => aLoop f n fr' h'
    | r => r

def aCode (E : Env) (K : Caller) (m nt : Nat) : Code → (Nat → AV) → AH → Option CR
  | .skip, fr, h => some (.go 0 fr h)
  | .region _ ops draw, fr, h => aRegion E K nt ops draw fr h
  | .seq a b, fr, h => match aCode E K m nt a fr h with
    | some (.go 0 fr' h') => aCode E K m nt b fr' h'
    | r => r
  | .cond c a b, fr, h => match ev fr c with
    | .bool true => aCode E K m nt a fr h
    | .bool false => aCode E K m nt b fr h
    | _ => none
  | .block id b, fr, h => match aCode E K m nt b fr h with
    | some (.go (k + 2) fr' h') => bif Nat.beq k id then some (.go 0 fr' h') else some (.go (k + 2) fr' h')
    | r => r
  | .loop b, fr, h => aLoop (aCode E K m nt b) m fr h
  | .exit id, fr, h => some (.go (id + 2) fr h)
  | .ret, fr, h => some (.go 1 fr h)
  | .label _, fr, h => some (.go 0 fr h)
  | .scope b, fr, h => aCode E K m nt b fr h
  | _, _, _ => none

def aRes1 (E : Env) (fr : Nat → AV) (h : AH) : ResultVar → Option AV
  | .tmp t => some (fr t)
  | .cell a t => aLoad E h t (fr a)

def aResL (E : Env) (fr : Nat → AV) (h : AH) : List ResultVar → Option (List AV)
  | [] => some []
  | x :: r => match aRes1 E fr h x, aResL E fr h r with
    | some v, some vs => some (v :: vs)
    | _, _ => none

def aResults (E : Env) (F : Func) (fr : Nat → AV) (h : AH) : Option AV :=
  match aResL E fr h F.results.toList with
  | some [v] => some v
  | some vs => some (.tup vs)
  | none => none

def frame0 (args : List AV) : Nat → AV := fun t => match args[t]? with
  | some v => v
  | none => .tup []

/-- One call, with the callees' answers given. -/
def aBody (E : Env) (K : Caller) (m : Nat) (F : Func) (args : List AV) (h : AH) : Option Out :=
  match F.body with
  | some c => match aCode E K m (max F.ntmps args.length) c (frame0 args) h with
    | some (.go 0 fr h') => match aResults E F fr h' with
      | some v => some (.ret v h')
      | none => none
    | some (.go 1 fr h') => match aResults E F fr h' with
      | some v => some (.ret v h')
      | none => none
    | some (.pan v h') => some (.pan v h')
    | _ => none
  | none => none

def aCall (E : Env) (sp : FuncId → Option Spec) (m : Nat) : Nat → Caller
  | 0 => fun _ _ _ => none
  | n + 1 => fun f args h =>
    match sp f with
    | some s => s (aCall E sp m n) args h
    | none => match E.fn f with
      | some F => aBody E (aCall E sp m n) m F args h
      | none => none

section
variable {P : Program} {E : Env} {B : Nat} {W0 : World}

theorem planOK_spec {ops : Array Oper} {ord : List Nat} (h : planOK E ops (masks ops.toList []) ord = true) :
    ord.length = ops.size ∧ (∀ i, i < ops.size → i ∈ ord) ∧ pairsOK E ops (precOf (masks ops.toList [])) ord = true ∧ edgesOK ops.toList (precOf (masks ops.toList [])) 0 ops.toList = true ∧ ord.Nodup ∧ ∀ i ∈ ord, i < ops.size := by
  simp only [planOK, Bool.and_eq_true, List.all_eq_true, List.mem_range] at h
  obtain ⟨h1, h5, h6, h2, h3, h4⟩ := h
  exact ⟨by simpa using Nat.eq_of_beq_eq_true h1, fun i hi => by simpa using h2 i (by simpa using hi), h3, h4, nodupB_spec h5, fun i hi => by simpa using blt_lt (h6 i hi)⟩

theorem region_sound (ok : EnvT P E) {K : Caller} (okK : CallOK P E.size K) {nt : Nat} {ds : List Deferred} {Q : Exit → Act → World → Prop} {id : Nat} {ops : Array Oper} {draw : Bool} {fr : Nat → AV} {h : AH} {σ : Sig} {w : World} {a : Act} {res : CR}
    (r : R E.size B W0 σ h w) (hf : FR σ fr a) (hn : a.tmps.size = nt) (hd : a.defers = ds) (he : aRegion E K nt ops draw fr h = some res) (hq : CodeR E.size B W0 σ nt ds Q res) : (Code.region id ops draw).wp P Q a w := by
  unfold aRegion at he
  split at he
  · refine wp_region ?_
    have := aSeq_sound ok okK (ops := ops) ops.toList 0 fr h σ w a (fun j => by rw [Array.getElem?_toList, Nat.zero_add]) r hf hn hd he hq
    rwa [Array.length_toList, ← List.range_eq_range'] at this
  · split at he
    case h_2 => cases he
    rename_i ord hord
    unfold planFor at hord
    rw [cond_eq_ite] at hord
    split at hord
    case isFalse => cases hord
    rename_i hp
    cases hord
    obtain ⟨p1, p2, p3, p4, q1, q2⟩ := planOK_spec hp
    refine wp_region_any ok.mixed ?_
    rw [← p1]
    have r1 : R E.size B W0 σ h { w with drawn := w.drawn + 1 } := r.drew
    refine draw_sound ok okK p4 _ _ _ _ fr h σ _ a rfl (by simp [p1]) (fun i hi => ⟨fun _ => p2 i hi, fun _ => ?_⟩) q2 q1 p3 (fun j o ho hl => ?_) r1 hf hn hd he hq
    · rw [Array.getD_eq_getD_getElem?]
      simp [Array.getElem?_replicate]
      split <;> rfl
    · rw [Array.getD_eq_getD_getElem?] at hl
      simp only [Array.getElem?_replicate] at hl
      split at hl <;> simp at hl

theorem CodeR.seq {sz : TypeId → Option Nat} {σ : Sig} {nt : Nat} {ds : List Deferred} {Q : Exit → Act → World → Prop} {N : Act → World → Prop} {r : CR}
    (h1 : ∀ fr h, r = .go 0 fr h → ∀ a w τ, SE σ τ → R sz B W0 τ h w → FR τ fr a → a.tmps.size = nt → a.defers = ds → N a w) (h2 : (∀ fr h, r ≠ .go 0 fr h) → CodeR sz B W0 σ nt ds Q r) : CodeR sz B W0 σ nt ds (Exit.then N Q) r := by
  cases r with
  | pan v h => exact h2 (by simp)
  | go ex fr h =>
    match ex with
    | 0 => exact h1 fr h rfl
    | 1 => exact h2 (by simp)
    | k + 2 => exact h2 (by simp)

theorem code_sound (ok : EnvT P E) {K : Caller} (okK : CallOK P E.size K) {m nt : Nat} {ds : List Deferred} : ∀ (c : Code) {Q : Exit → Act → World → Prop} {fr : Nat → AV} {h : AH} {σ : Sig} {w : World} {a : Act} {res : CR},
    R E.size B W0 σ h w → FR σ fr a → a.tmps.size = nt → a.defers = ds → aCode E K m nt c fr h = some res → CodeR E.size B W0 σ nt ds Q res → c.wp P Q a w
  | .skip, Q, fr, h, σ, w, a, res, r, hf, hn, hd, he, hq => by
      simp only [aCode, Option.some.injEq] at he; subst he
      exact wp_skip (hq a w σ (SE.refl _) r hf hn hd)
  | .region id ops draw, Q, fr, h, σ, w, a, res, r, hf, hn, hd, he, hq => by
      simp only [aCode] at he
      exact region_sound ok okK r hf hn hd he hq
  | .seq x y, Q, fr, h, σ, w, a, res, r, hf, hn, hd, he, hq => by
      simp only [aCode] at he
      refine wp_seq ?_
      cases hx : aCode E K m nt x fr h with
      | none => rw [hx] at he; cases he
      | some r1 =>
        rw [hx] at he
        refine code_sound ok okK x r hf hn hd hx (CodeR.seq (fun fr' h' e => ?_) fun hne => ?_)
        · subst e
          intro a' w' τ se r' hf' hn' hd'
          exact code_sound ok okK y r' hf' hn' hd' he (hq.mono se)
        · have : r1 = res := by
            cases r1 with
            | pan v h' => cases he; rfl
            | go ex fr' h' =>
              match ex with
              | 0 => exact absurd rfl (hne fr' h')
              | 1 => cases he; rfl
              | k + 2 => cases he; rfl
          subst this
          exact hq
  | .cond c x y, Q, fr, h, σ, w, a, res, r, hf, hn, hd, he, hq => by
      simp only [aCode] at he
      have hc := hf.ev c
      split at he
      · rename_i e
        rw [e] at hc
        simp only [VR] at hc
        exact wp_cond_true hc (code_sound ok okK x r hf hn hd he hq)
      · rename_i e
        rw [e] at hc
        simp only [VR] at hc
        exact wp_cond_false hc (code_sound ok okK y r hf hn hd he hq)
      · cases he
  | .block id b, Q, fr, h, σ, w, a, res, r, hf, hn, hd, he, hq => by
      simp only [aCode] at he
      refine wp_block ?_
      cases hx : aCode E K m nt b fr h with
      | none => rw [hx] at he; cases he
      | some r1 =>
        rw [hx] at he
        refine code_sound ok okK b r hf hn hd hx ?_
        cases r1 with
        | pan v h' => cases he; exact hq
        | go ex fr' h' =>
          match ex with
          | 0 => cases he; exact hq
          | 1 => cases he; exact hq
          | k + 2 =>
            simp only at he
            intro a' w' τ se r' hf' hn' hd'
            cases hb : Nat.beq k id
            · rw [hb] at he
              cases he
              have hne := Nat.ne_of_beq_eq_false hb
              simp only [Exit.inBlock, if_neg hne]
              exact hq a' w' τ se r' hf' hn' hd'
            · rw [hb] at he
              cases he
              have := Nat.eq_of_beq_eq_true hb
              subst this
              simp only [Exit.inBlock, if_true]
              exact hq a' w' τ se r' hf' hn' hd'
  | .loop b, Q, fr, h, σ, w, a, res, r, hf, hn, hd, he, hq => by
      simp only [aCode] at he
      refine wp_loop_rounds m ?_
      have key : ∀ (k : Nat) (fr : Nat → AV) (h : AH) (σ' : Sig) (w : World) (a : Act), R E.size B W0 σ' h w → FR σ' fr a → a.tmps.size = nt → a.defers = ds → aLoop (aCode E K m nt b) k fr h = some res → CodeR E.size B W0 σ' nt ds Q res → (∀ fr h, res ≠ .go 0 fr h) → Code.rounds P b Q k a w := by
        intro k
        induction k with
        | zero => intro fr h σ' w a _ _ _ _ he; simp [aLoop] at he
        | succ k ih =>
          intro fr h σ' w a r hf hn hd he hq hres
          simp only [aLoop] at he
          rw [rounds_succ]
          cases hx : aCode E K m nt b fr h with
          | none => rw [hx] at he; cases he
          | some r1 =>
            rw [hx] at he
            refine code_sound ok okK b r hf hn hd hx (CodeR.seq (fun fr' h' e => ?_) fun hne => ?_)
            · subst e
              intro a' w' τ se r' hf' hn' hd'
              exact ih fr' h' τ w' a' r' hf' hn' hd' he (hq.mono se) hres
            · have : r1 = res := by
                cases r1 with
                | pan v h' => cases he; rfl
                | go ex fr' h' =>
                  match ex with
                  | 0 => exact absurd rfl (hne fr' h')
                  | 1 => cases he; rfl
                  | k + 2 => cases he; rfl
              subst this
              exact hq
      have hres : ∀ (k : Nat) fr h, aLoop (aCode E K m nt b) k fr h = some res → ∀ fr h, res ≠ .go 0 fr h := by
        intro k
        induction k with
        | zero => intro fr h he; simp [aLoop] at he
        | succ k ih =>
          intro fr h he fr2 h2 e
          simp only [aLoop] at he
          split at he
          · exact ih _ _ he fr2 h2 e
          · rename_i hno
            subst e
            exact hno fr2 h2 he
      exact key m fr h σ w a r hf hn hd he hq (hres m fr h he)
  | .exit id, Q, fr, h, σ, w, a, res, r, hf, hn, hd, he, hq => by
      simp only [aCode, Option.some.injEq] at he; subst he
      exact wp_exit (hq a w σ (SE.refl _) r hf hn hd)
  | .ret, Q, fr, h, σ, w, a, res, r, hf, hn, hd, he, hq => by
      simp only [aCode, Option.some.injEq] at he; subst he
      exact wp_ret (hq a w σ (SE.refl _) r hf hn hd)
  | .label l, Q, fr, h, σ, w, a, res, r, hf, hn, hd, he, hq => by
      simp only [aCode, Option.some.injEq] at he; subst he
      exact wp_label (hq a w σ (SE.refl _) r hf hn hd)
  | .scope b, Q, fr, h, σ, w, a, res, r, hf, hn, hd, he, hq => by
      simp only [aCode] at he
      refine wp_scope_straight (code_sound ok okK b r hf hn hd he ?_)
      cases res with
      | pan v h' => exact hq
      | go ex fr' h' =>
        match ex with
        | 0 => exact hq
        | 1 => exact hq
        | k + 2 => exact hq
  | .goto l, Q, fr, h, σ, w, a, res, r, hf, hn, hd, he, hq => by simp [aCode] at he
  | .refuse l, Q, fr, h, σ, w, a, res, r, hf, hn, hd, he, hq => by simp [aCode] at he
  | .rangeFunc x y z u, Q, fr, h, σ, w, a, res, r, hf, hn, hd, he, hq => by simp [aCode] at he

def resSem (tmps : Array Value) : ResultVar → Sem Value
  | .tmp t => pure (tmps.getD t undef)
  | .cell a t => do loadVar t (← asAddr (tmps.getD a undef))
theorem results_eq (F : Func) (tmps : Array Value) : results F tmps = (do let vs ← F.results.mapM (resSem tmps); pure (if h : vs.size = 1 then vs[0] else .tuple vs)) := by
  unfold results
  congr 2

theorem aRes1_sound (ok : EnvT P E) {fr : Nat → AV} {h : AH} {σ : Sig} {w : World} {a : Act} (r : R E.size B W0 σ h w) (hf : FR σ fr a) {x : ResultVar} {v : AV} (he : aRes1 E fr h x = some v) :
    ∃ u, (resSem a.tmps x).run P w = .ok u w ∧ VR σ v u := by
  cases x with
  | tmp t => simp only [aRes1, Option.some.injEq] at he; subst he; exact ⟨_, rfl, hf t⟩
  | cell c t =>
    simp only [aRes1] at he
    obtain ⟨u, hu, hr⟩ := aLoad_sound (P := P) ok r (hf c) he
    refine ⟨u, ?_, hr⟩
    have hp : ∃ ad, a.tmps.getD c undef = .pointer (some ad) := by
      have h0 := hf c
      cases hc : fr c <;> rw [hc] at he h0 <;> simp only [aLoad, reduceCtorEq] at he
      simp only [VR] at h0
      exact ⟨_, h0.2⟩
    obtain ⟨ad, had⟩ := hp
    rw [had] at hu
    simp only [resSem, had]
    simpa [Instr.loadAt, Instr.sureAddr, asAddr] using hu

theorem aResults_sound (ok : EnvT P E) {F : Func} {fr : Nat → AV} {h : AH} {σ : Sig} {w : World} {a : Act} (r : R E.size B W0 σ h w) (hf : FR σ fr a) {v : AV} (he : aResults E F fr h = some v) :
    ∃ u, (results F a.tmps).run P w = .ok u w ∧ VR σ v u := by
  have gen : ∀ (l : List ResultVar) (vs : List AV), aResL E fr h l = some vs → ∃ us : List Value, (l.mapM (resSem a.tmps)).run P w = .ok us w ∧ VRL σ vs us := by
    intro l
    induction l with
    | nil => intro vs h1; simp [aResL] at h1; subst h1; exact ⟨[], by simp, by simp [VRL]⟩
    | cons x l ih =>
      intro vs h1
      simp only [aResL] at h1
      split at h1
      · rename_i v0 vs0 e1 e2
        cases h1
        obtain ⟨u, hu, hr⟩ := aRes1_sound (P := P) ok r hf e1
        obtain ⟨us, hus, hrs⟩ := ih vs0 e2
        refine ⟨u :: us, ?_, by simp only [VRL]; exact ⟨u, us, rfl, hr, hrs⟩⟩
        simp only [List.mapM_cons, Sem.run_bind, hu, Result.andThen_ok, hus, Sem.run_pure]
      · cases h1
  unfold aResults at he
  have fin : ∀ vs, aResL E fr h F.results.toList = some vs → ∃ us : List Value, (results F a.tmps).run P w = .ok (if h : us.toArray.size = 1 then us.toArray[0] else .tuple us.toArray) w ∧ VRL σ vs us := fun vs hvs => by
    obtain ⟨us, hus, hrs⟩ := gen _ vs hvs
    refine ⟨us, ?_, hrs⟩
    rw [results_eq, Array.mapM_eq_mapM_toList]
    simp only [Sem.run_bind, Sem.run_map, hus, Result.andThen_ok, Sem.run_pure]
  split at he
  · rename_i v0 hvs
    cases he
    obtain ⟨us, hus, hrs⟩ := fin _ hvs
    simp only [VRL] at hrs
    obtain ⟨u, ys, rfl, hr, rfl⟩ := hrs
    exact ⟨u, by rw [hus]; simp, hr⟩
  · rename_i vs hne hvs
    cases he
    obtain ⟨us, hus, hrs⟩ := fin _ hvs
    have hl : us.length ≠ 1 := fun hl => by
      rw [hrs.length] at hl
      match vs, hl with
      | [x], _ => exact hne x rfl
    refine ⟨.tuple us.toArray, ?_, by simp only [VR]; exact ⟨_, rfl, by simpa using hrs⟩⟩
    rw [hus, dif_neg (by simpa using hl)]
  · cases he

theorem body_sound (ok : EnvT P E) {K : Caller} (okK : CallOK P E.size K) {m : Nat} {f : FuncId} {F : Func} (hF : E.fn f = some F) {args : List AV} {h : AH} {out : Out} (he : aBody E K m F args h = some out) : CallAt P E.size f args h out := by
  intro B W0 σ w vs r hv
  obtain ⟨hf, hb, _⟩ := ok.fn f F hF
  unfold aBody at he
  split at he
  case h_2 => cases he
  rename_i c hc
  have hl := hv.length
  simp at hl
  refine calls_of_wp hf hc ?_
  have hn : ({ tmps := vs ++ Array.replicate (F.ntmps - vs.size) undef, defers := [] } : Act).tmps.size = max F.ntmps args.length := by simp; omega
  have hfr : FR σ (frame0 args) { tmps := vs ++ Array.replicate (F.ntmps - vs.size) undef, defers := [] } := by
    intro t
    simp only [frame0]
    cases ht : args[t]? with
    | some v =>
      obtain ⟨u, hu, hr⟩ := hv.get ht
      have hlt := (List.getElem?_eq_some_iff.1 ht).1
      rw [Array.getD_eq_getD_getElem?, Array.getElem?_append_left (by omega)]
      rw [Array.getElem?_toList] at hu
      rw [hu]
      exact hr
    | none =>
      have hge : vs.size ≤ t := by
        rw [hl]
        exact List.getElem?_eq_none_iff.1 ht
      rw [Array.getD_eq_getD_getElem?, Array.getElem?_append_right hge, Array.getElem?_replicate]
      have e : (if t - vs.size < F.ntmps - vs.size then some undef else none : Option Value).getD undef = undef := by split <;> rfl
      rw [e]
      exact VR.undef σ
  have fin : ∀ (fr : Nat → AV) (h' : AH) (v : AV), aResults E F fr h' = some v → out = .ret v h' → ∀ a w' τ, SE σ τ → R E.size B W0 τ h' w' → FR τ fr a → a.defers = [] → a.defers = [] ∧ ∃ u, (results F a.tmps).run P w' = .ok u w' ∧ OutR E.size B W0 σ out (.returned u) w' := by
    intro fr h' v hr ho a w' τ se r' hf' hd'
    obtain ⟨u, hu, hvr⟩ := aResults_sound (P := P) ok r' hf' hr
    subst ho
    exact ⟨hd', u, hu, u, τ, rfl, se, r', hvr⟩
  split at he
  · rename_i fr h' hcode
    split at he
    · rename_i v hr
      cases he
      exact code_sound ok okK c r hfr hn rfl hcode fun a w' τ se r' hf' _ hd' => fin fr h' v hr rfl a w' τ se r' hf' hd'
    · cases he
  · rename_i fr h' hcode
    split at he
    · rename_i v hr
      cases he
      exact code_sound ok okK c r hfr hn rfl hcode fun a w' τ se r' hf' _ hd' => fin fr h' v hr rfl a w' τ se r' hf' hd'
    · cases he
  · rename_i v h' hcode
    cases he
    exact code_sound ok okK c r hfr hn rfl hcode fun u a w' τ se r' hvr _ hd' => ⟨hd', u, τ, rfl, se, r', hvr⟩
  · cases he

/-- A function's own contract: with callees that keep theirs, what it answers the model answers. -/
def SpecAt (P : Program) (sz : TypeId → Option Nat) (f : FuncId) (s : Spec) : Prop :=
  ∀ K, CallOK P sz K → ∀ args h out, s K args h = some out → CallAt P sz f args h out

theorem call_sound (ok : EnvT P E) {sp : FuncId → Option Spec} (hs : ∀ f s, sp f = some s → SpecAt P E.size f s) {m : Nat} : ∀ n, CallOK P E.size (aCall E sp m n)
  | 0 => fun f args h out he => by simp [aCall] at he
  | n + 1 => fun f args h out he => by
      simp only [aCall] at he
      cases hsp : sp f with
      | some s =>
        rw [hsp] at he
        exact hs f s hsp _ (call_sound ok hs n) args h out he
      | none =>
        rw [hsp] at he
        simp only at he
        cases hF : E.fn f with
        | none => rw [hF] at he; cases he
        | some F =>
          rw [hF] at he
          exact body_sound ok (call_sound ok hs n) hF he

/-- From an empty heap: whatever the world. -/
theorem CallAt.closed {f : FuncId} {v : AV} {h' : AH} (hc : CallAt P E.size f [] AH.empty (.ret v h')) (w : World) {u : Value} (hv : ∀ τ x, VR τ v x → x = u) : Calls P f #[] w fun e w' => e = .returned u ∧ Below w.heap.size w w' := by
  refine (hc w.heap.size w ⟨0, fun _ => ⟨0, 0, 0⟩⟩ w #[] ⟨Below.refl _ _, Nat.le_refl _, rfl, fun i hi => absurd hi (Nat.not_lt_zero _), fun i j hi => absurd hi (Nat.not_lt_zero _)⟩ (by simp [VRL])).mono fun e w' hr => ?_
  obtain ⟨x, τ, rfl, _, r, hx⟩ := hr
  exact ⟨by rw [hv τ x hx], r.below⟩
end
end Go.Proofs.Yteblojfcalgoeaa
