/- Parts of the abstract machine and of its laws, joined. Conditions: none. -/
import Derived.Test.YteblojfcalgoeaaQD
set_option linter.unusedVariables false
set_option linter.unusedSimpArgs false
/- The abstract machine: texts; slices with room to spare. Conditions: none. -/
set_option linter.unusedVariables false
set_option linter.unusedSimpArgs false
namespace Go.Proofs.Yteblojfcalgoeaa
open Go Go.RowKit

section
variable {E : Env} {K : Caller} {fr : Nat → AV} {h : AH}
@[go_sem] theorem st_makeSlice {t : TypeId} {x y : Operand} : aStep E K false fr h (.makeSlice t x y) = valH (aMake E h t (ev fr x) (ev fr y)) := by
  simp only [aStep, aOper, qStep, qOp, eOp, valH]
  cases aMake E h t (ev fr x) (ev fr y) <;> rfl
theorem bin_sadd {t : TypeId} {a b : List UInt8} (hl : a.length + b.length ≤ 9223372036854775807) : aBin E .add t (.str a) (.str b) = some (.str (a ++ b)) := by
  simp [aBin, aStr, hl]
@[go_sem] theorem bin_slss {t : TypeId} {a b : List UInt8} : aBin E .lss t (.str a) (.str b) = some (.bool (Op.bytesLess a b)) := (rfl)
theorem bin_bneq {t : TypeId} {a b : Bool} (ht : (match E.ty t with | some ti => (match ti.und with | .bool => true | _ => false) | none => false) = true) : aBin E .neq t (.bool a) (.bool b) = some (.bool !(a == b)) := by
  split at ht
  · rename_i ti e
    split at ht
    · rename_i e2
      simp [aBin, aEq, e, e2]
    · cases ht
  · cases ht
theorem idx_str {t : TypeId} {s : List UInt8} {k : IntKind} {j : Nat} {c : UInt8} (ht : strT E t = true) (hj : s[j]? = some c) : aIndex E t (.str s) (.int k j) = some (.int .u8 (c.toNat : Nat)) := by
  unfold strT at ht
  split at ht
  case h_2 => cases ht
  rename_i ti e1
  split at ht
  case h_2 => cases ht
  rename_i e2
  have hw : IntKind.u8.wrap (c.toNat : Int) = (c.toNat : Int) := w_u8_in _ c.toNat_lt
  simp [aIndex, e1, e2, asN_nat, hj, mkI_eq]
theorem bnd_ok {x : Option AV} {d top k : Nat} (hx : x = none ∧ k = d ∨ ∃ q, x = some (.int q (k : Nat))) (hk : k ≤ top) : aBnd x d top = some k := by
  rcases hx with ⟨rfl, rfl⟩ | ⟨q, rfl⟩
  · rfl
  · simp only [aBnd, asN_nat, Nat.ble_eq_true_of_le hk, cond_true]
theorem slice_str {t : TypeId} {s : List UInt8} {lo hi : Option AV} {a b : Nat} (ht : strT E t = true) (hlo : lo = none ∧ a = 0 ∨ ∃ k, lo = some (.int k (a : Nat))) (hhi : hi = none ∧ b = s.length ∨ ∃ k, hi = some (.int k (b : Nat))) (hab : a ≤ b) (hb : b ≤ s.length) : aSlice E t (.str s) lo hi none = some (.str ((s.drop a).take (b - a))) := by
  unfold strT at ht
  split at ht
  case h_2 => cases ht
  rename_i ti e1
  split at ht
  case h_2 => cases ht
  rename_i e2
  unfold aSlice
  simp only [e1, e2]
  rw [bnd_ok hhi hb]
  simp only
  rw [bnd_ok hlo hab]

theorem make_gen {t e sz by_ : Nat} {z : AV} (ht : slT E t e sz by_ = true) (hz : zeroT E e = some z) {k k' : IntKind} {n c : Nat} (hn : n ≤ c) (hc : by_ * c ≤ 281474976710656) : aMake E h t (.int k n) (.int k' c) = some (.sl h.next 0 n c false, h.push (.cells (repL z.cells c) e .own)) := by
  obtain ⟨ti, ei, h1, h2, h3, h4, h5, h6, h7⟩ := slT_spec ht
  have hzz : ei.zero = z := by
    unfold zeroT at hz
    rw [h3] at hz
    simpa using hz
  have hc2 : c ≤ by_ * c := Nat.le_mul_of_pos_left _ h7
  unfold aMake
  simp only [h1, asN_nat, h2, h3, h5, hzz]
  rw [Nat.ble_eq_true_of_le hn, Nat.ble_eq_true_of_le hc, Nat.ble_eq_true_of_le (by omega)]
  rfl

theorem setFrom_append : ∀ (xs pre rest : List AV), xs.length ≤ rest.length → setFrom (pre ++ rest) pre.length xs = pre ++ xs ++ rest.drop xs.length
  | [], pre, rest, _ => by simp [setFrom]
  | x :: xs, pre, rest, hl => by
      cases rest with
      | nil => simp at hl
      | cons r rest =>
        have e1 : (pre ++ r :: rest).set pre.length x = (pre ++ [x]) ++ rest := by
          rw [List.set_append_right _ _ (Nat.le_refl _)]
          simp
        have e2 : pre.length + 1 = (pre ++ [x]).length := by simp
        rw [setFrom, e1, e2, setFrom_append xs (pre ++ [x]) rest (by simpa using hl)]
        simp

/-- A slice of bytes with room for more. -/
def SpB (e : TypeId) (h : AH) (v : AV) (bs : List UInt8) (c : Nat) : Prop :=
  bs.length ≤ c ∧ ∃ i rest, v = .sl i 0 bs.length c false ∧ i < h.next ∧ h.get i = .cells (u8s bs ++ rest) e .own ∧ rest.length = c - bs.length
theorem SpB.bs {e : TypeId} {v : AV} {bs : List UInt8} {c : Nat} (hs : SpB e h v bs c) : BS h v bs := by
  obtain ⟨hc, i, rest, rfl, hi, hg, hr⟩ := hs
  exact ⟨⟨rfl, fun _ => hc⟩, hi, _, _, _, hg, by simp [u8s_length], by rw [List.drop_zero, ← u8s_length bs, List.take_left]⟩
theorem SpB.keep {e : TypeId} {h' : AH} {v : AV} {bs : List UInt8} {c : Nat} {S : List Nat} (hs : SpB e h v bs c) (k : Keep h h' S) (hS : ∀ i ∈ ids v, i ∉ S) : SpB e h' v bs c := by
  obtain ⟨hc, i, rest, rfl, hi, hg, hr⟩ := hs
  exact ⟨hc, i, rest, rfl, Nat.lt_of_lt_of_le hi k.next, by rw [k.get _ hi (hS _ (by simp [ids]))]; exact hg, hr⟩
theorem append_spare {t t' e : TypeId} (ht : byteT E t e = true) (ht' : seqT E t' = true) {v x : AV} {bs xs : List UInt8} {c : Nat} (hs : SpB e h v bs c) (hx : newsOf h 1 x = some (xs.length, u8s xs)) (hc : bs.length + xs.length ≤ c) :
    ∃ v' h', eBuiltin E h .append [v, x] [t, t'] = some (v', h') ∧ SpB e h' v' (bs ++ xs) c ∧ Keep h h' (ids v) ∧ ids v' = ids v := by
  obtain ⟨ti, ei, h1, h2, h3, h4, h5, h6⟩ := byteT_spec ht
  have hap : eBuiltin E h .append [v, x] [t, t'] = aAppend h e ei v xs.length (u8s xs) := by
    unfold seqT at ht'
    split at ht'
    case h_2 => cases ht'
    rename_i xi hxi
    simp only [eBuiltin, h1, h2, h3, h5, h6, hxi, hx]
    split at ht'
    · rename_i hu; simp only [hu]; rfl
    · rename_i hu; simp only [hu]; rfl
    · cases ht'
  rw [hap]
  obtain ⟨hcb, i, rest, rfl, hi, hg, hr⟩ := hs
  unfold aAppend
  by_cases h0 : xs = []
  · subst h0
    simp only [List.length_nil, List.append_nil]
    exact ⟨_, _, rfl, ⟨hcb, i, rest, rfl, hi, hg, hr⟩, (Keep.refl h).mono (by simp), rfl⟩
  · have hl : xs.length ≠ 0 := fun e => h0 (List.eq_nil_of_length_eq_zero e)
    rw [show Nat.beq xs.length 0 = false from beqF hl, cond_false]
    simp only [hg, h5, Nat.mul_one, Nat.zero_add]
    rw [Nat.ble_eq_true_of_le hc, cond_true, u8s_atom, Nat.ble_eq_true_of_le (by simp [u8s_length]; omega)]
    simp only [ne_eq, reduceCtorEq, not_false_eq_true, decide_true, Bool.and_self, cond_true]
    have hsf := setFrom_append (u8s xs) (u8s bs) rest (by simp [u8s_length]; omega)
    rw [u8s_length bs] at hsf
    rw [hsf]
    refine ⟨_, _, rfl, ⟨by simpa using hc, i, rest.drop (u8s xs).length, by simp, by simpa using hi, by rw [get_set_same, u8s_append], by simp [u8s_length]; omega⟩, Keep.set h i _, rfl⟩
end
end Go.Proofs.Yteblojfcalgoeaa

/- The abstract machine: blocks that hold just one thing; a function's first pieces by the machine, the rest by hand; slices with room, of any elements. Conditions: none. -/
set_option linter.unusedVariables false
set_option linter.unusedSimpArgs false
namespace Go.Proofs.Yteblojfcalgoeaa
open Go Go.RowKit

section
variable {size : TypeId → Option Nat} {B : Nat} {W0 : World} {σ : Sig} {h : AH} {w : World}
/-- Of a map: its very block. -/
theorem R.rawMap (r : R size B W0 σ h w) {i : Nat} (hi : i < h.next) {es : List (List UInt8 × AV)} (hg : h.get i = .map es) {o : Obj} (hb : w.heap[(σ.at_ i).block]? = some o) : R size B W0 σ (h.set i (.raw o)) w := by
  have ho := r.obj i hi
  rw [hg] at ho
  exact r.set hi (by rw [hg]; trivial) rfl rfl rfl rfl (fun _ _ => rfl) ho.1 ⟨ho.1, hb⟩
/-- A block that holds one thing holds another. -/
theorem R.putRaw (r : R size B W0 σ h w) {i : Nat} (hi : i < h.next) {o : Obj} (hg : h.get i = .raw o) (o' : Obj) : R size B W0 σ (h.set i (.raw o')) { w with heap := w.heap.setIfInBounds (σ.at_ i).block o' } := by
  have ho := r.obj i hi
  rw [hg] at ho
  refine r.set hi (by rw [hg]; trivial) (by simp) rfl rfl rfl (fun k hk => ?_) ho.1 ⟨ho.1, ?_⟩
  · simp only [Array.getElem?_setIfInBounds]
    rw [if_neg (fun e => hk e.symm)]
  · simp only [Array.getElem?_setIfInBounds]
    rw [if_pos trivial, if_pos (block_lt ho.2)]
theorem R.newRaw (r : R size B W0 σ h w) (o : Obj) : R size B W0 (σ.add ⟨w.heap.size, 0, 0⟩) (h.push (.raw o)) (w.alloc o) :=
  r.push ((Below.refl _ _).alloc (Nat.le_refl _) _) (Nat.le_refl _) ⟨by rw [σ.at_add]; exact r.le, by rw [σ.at_add]; exact heap_alloc_new w o⟩

/-- Room for more objects, of which nothing is said. -/
def AH.grow (h : AH) (k : Nat) : AH := ⟨h.next + k, fun i => bif Nat.blt i h.next then h.get i else .dead⟩
theorem grow_get {h : AH} {k i : Nat} (hi : i < h.next) : (h.grow k).get i = h.get i := by
  simp only [AH.grow, show Nat.blt i h.next = true from Nat.ble_eq_true_of_le hi, cond_true]
theorem Keep.grow (h : AH) (k : Nat) : Keep h (h.grow k) [] := ⟨Nat.le_add_right _ _, fun j hj _ => grow_get hj⟩
theorem R.grow {h2 : AH} (r : R size B W0 σ h2 w) {k : Nat} (hn : h2.next = h.next + k) (hg : ∀ i, i < h.next → h2.get i = h.get i ∨ h.get i = .dead) : R size B W0 σ (h.grow k) w := by
  have key : ∀ i, i < h2.next → (h.grow k).get i = h2.get i ∨ (h.grow k).get i = .dead := fun i hi => by
    by_cases hlt : i < h.next
    · rw [grow_get hlt]
      rcases hg i hlt with h1 | h1
      · exact .inl h1.symm
      · exact .inr h1
    · right
      have : Nat.blt i h.next = false := by
        cases hb : Nat.blt i h.next
        · rfl
        · exact absurd (blt_lt hb) hlt
      simp only [AH.grow, this, cond_false]
  refine ⟨r.below, r.hB, by rw [r.n, hn]; rfl, fun i hi => ?_, fun i j hi hj hne hw hl => ?_⟩
  · have hi' : i < h2.next := by rw [hn]; exact hi
    rcases key i hi' with h1 | h1
    · rw [h1]; exact r.obj i hi'
    · rw [h1]; trivial
  · have hi' : i < h2.next := by rw [hn]; exact hi
    have hj' : j < h2.next := by rw [hn]; exact hj
    rcases key i hi' with h1 | h1
    · rcases key j hj' with h2 | h2
      · rw [h1] at hw; rw [h2] at hl; exact r.sep i j hi' hj' hne hw hl
      · rw [h2] at hl; exact hl.elim
    · rw [h1] at hw; exact hw.elim
end

/-! ### Pieces one behind the other -/
def seqAll : List Code → Code → Code
  | [], t => t
  | c :: l, t => .seq c (seqAll l t)
section
variable {P : Program} {E : Env} {B : Nat} {W0 : World} {K : Caller} {m nt : Nat} {ds : List Deferred}
theorem seqs_sound (ok : EnvT P E) (okK : CallOK P E.size K) {t : Code} {Q : Exit → Act → World → Prop} {fr1 : Nat → AV} {h1 : AH} : ∀ (l : List Code) {fr : Nat → AV} {h : AH} {σ : Sig} {w : World} {a : Act},
    R E.size B W0 σ h w → FR σ fr a → a.tmps.size = nt → a.defers = ds → aCode E K m nt (seqAll l .skip) fr h = some (.go 0 fr1 h1) →
    (∀ a w τ, SE σ τ → R E.size B W0 τ h1 w → FR τ fr1 a → a.tmps.size = nt → a.defers = ds → t.wp P Q a w) → (seqAll l t).wp P Q a w
  | [], fr, h, σ, w, a, r, hf, hn, hd, he, ht => by
      simp only [seqAll, aCode, Option.some.injEq, CR.go.injEq] at he
      obtain ⟨_, rfl, rfl⟩ := he
      exact ht a w σ (SE.refl σ) r hf hn hd
  | c :: l, fr, h, σ, w, a, r, hf, hn, hd, he, ht => by
      simp only [seqAll, aCode] at he ⊢
      refine wp_seq ?_
      cases hx : aCode E K m nt c fr h with
      | none => rw [hx] at he; cases he
      | some r1 =>
        rw [hx] at he
        refine code_sound ok okK c r hf hn hd hx (CodeR.seq (fun fr' h' e => ?_) fun hne => ?_)
        · subst e
          intro a' w' τ se r' hf' hn' hd'
          exact seqs_sound ok okK l r' hf' hn' hd' he fun a w τ' se' => ht a w τ' (se.trans se')
        · exfalso
          cases r1 with
          | pan v h' => cases he
          | go ex fr' h' =>
            match ex with
            | 0 => exact hne fr' h' rfl
            | k + 1 => simp at he

/-- One operation, whose answer is known. -/
theorem wpOps_op {ops : Array Oper} {Q : Exit → Act → World → Prop} {k : Nat} {rest : List Nat} {a : Act} {w w' : World} {o : Oper} (h0 : ops[k]? = some o) (hg : o.guard = none) {v : Value}
    (hr : (execOp a.eval o).run P w = .ok (.value v) w') (hk : wpOps P ops Q rest (a.put o.dst v) w') : wpOps P ops Q (k :: rest) a w := by
  rw [wpOps_cons]
  unfold wpOp
  simp only [h0]
  rw [if_pos (by simp [Region.wanted, hg])]
  left
  unfold Oper.wp
  rw [hr]
  exact hk
/-- One operation that only reads. -/
theorem wpOps_q (ok : EnvT P E) {σ : Sig} {h : AH} {w : World} (r : R E.size B W0 σ h w) {fr : Nat → AV} {a : Act} (hf : FR σ fr a) (hn : a.tmps.size = nt) (hd : a.defers = ds) {ops : Array Oper} {Q : Exit → Act → World → Prop} {k : Nat} {rest : List Nat} {o : Oper} (h0 : ops[k]? = some o) (hg : o.guard = none) (hod : okD nt o.dst = true)
    {y : AV} (he : qStep E fr h o.op = some y) (hk : ∀ a', FR σ (setF fr o.dst y) a' → a'.tmps.size = nt → a'.defers = ds → wpOps P ops Q rest a' w) : wpOps P ops Q (k :: rest) a w := by
  obtain ⟨v, hr, hv⟩ := qStep_sound ok r hf he
  exact wpOps_op h0 hg hr (hk _ (hf.put hn hod hv) (by rw [Act.size_put]; exact hn) (by rw [Act.defers_put]; exact hd))
end

/-- A slice with room for more, of any elements. -/
def SpA (e sz : Nat) (h : AH) (v : AV) (n c : Nat) (cs : List AV) : Prop :=
  n ≤ c ∧ cs.length = n * sz ∧ ∃ i rest, v = .sl i 0 n c false ∧ i < h.next ∧ h.get i = .cells (cs ++ rest) e .own ∧ rest.length = (c - n) * sz
theorem append_spA {E : Env} {h : AH} {t t' e sz by_ : Nat} (ht : slT E t e sz by_ = true) (ht' : seqT E t' = true) {v x : AV} {n m c : Nat} {cs xs : List AV} (hs : SpA e sz h v n c cs) (hx : newsOf h sz x = some (m, xs)) (hxl : xs.length = m * sz) (hxa : xs.all AV.atom = true) (h0 : 0 < m) (hc : n + m ≤ c) :
    ∃ v' h', eBuiltin E h .append [v, x] [t, t'] = some (v', h') ∧ SpA e sz h' v' (n + m) c (cs ++ xs) ∧ Keep h h' (ids v) ∧ h'.next = h.next ∧ ∀ i l, v = .sl i 0 n c l → v' = .sl i 0 (n + m) c l := by
  obtain ⟨ti, ei, h1, h2, h3, h4, h5, h6, h7⟩ := slT_spec ht
  have hap : eBuiltin E h .append [v, x] [t, t'] = aAppend h e ei v m xs := by
    unfold seqT at ht'
    split at ht'
    case h_2 => cases ht'
    rename_i xi hxi
    have b1 : Nat.blt 0 ei.size = true := Nat.ble_eq_true_of_le (by omega)
    have b2 : Nat.blt 0 ei.bytes = true := Nat.ble_eq_true_of_le (by omega)
    simp only [eBuiltin, h1, h2, h3, hxi, h4, hx]
    rw [h4] at b1
    rw [b1, b2]
    split at ht'
    · rename_i hu; simp only [hu]; rfl
    · rename_i hu; simp only [hu]; rfl
    · cases ht'
  rw [hap]
  obtain ⟨hcb, hl, i, rest, rfl, hi, hg, hr⟩ := hs
  have hms : m * sz ≤ (c - n) * sz := Nat.mul_le_mul_right sz (by omega)
  unfold aAppend
  rw [show Nat.beq m 0 = false from beqF (by omega), cond_false]
  simp only [hg, h4, Nat.zero_add]
  rw [Nat.ble_eq_true_of_le hc, cond_true, hxa, Nat.ble_eq_true_of_le (by rw [List.length_append, hl, hr, hxl]; omega)]
  simp only [ne_eq, reduceCtorEq, not_false_eq_true, decide_true, Bool.and_self, cond_true]
  have hsf := setFrom_append xs cs rest (by omega)
  rw [← hl, hsf]
  refine ⟨_, _, rfl, ⟨hc, by rw [List.length_append, hl, hxl, Nat.add_mul], i, rest.drop xs.length, rfl, by simpa using hi, get_set_same, ?_⟩, Keep.set h i _, rfl, fun i' l e => by cases e; rfl⟩
  rw [List.length_drop, hr, hxl, ← Nat.sub_mul]
  congr 1
  omega
end Go.Proofs.Yteblojfcalgoeaa
