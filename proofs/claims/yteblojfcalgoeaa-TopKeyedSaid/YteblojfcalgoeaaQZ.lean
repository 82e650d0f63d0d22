/- Parts of the abstract machine and of its laws, joined. Conditions: none. -/
import Derived.Test.YteblojfcalgoeaaQY
set_option linter.unusedVariables false
set_option linter.unusedSimpArgs false
/- Seat 1: TopKeyed: the kind of any text; what Under is told. Conditions: none. -/
set_option linter.unusedVariables false
set_option linter.unusedSimpArgs false
namespace Go.Proofs.Yteblojfcalgoeaa
open Go Go.RowKit
set_option maxRecDepth 100000

theorem topKD {n m : Nat} {h : AH} {fr : Nat → AV} {pv tv av : AV} {other : List UInt8} (hf : G6 fr pv other tv av) (f30 : fr 30 = .int .i64 0) (f31 : fr 31 = .bool (rightB other))
    {Q : CR → Prop} (hQ : ∀ fr', G6 fr' pv other tv av → fr' 30 = .int .i64 (kindF other : Nat) → fr' 31 = .bool (rightB other) → wCode E0 (aCall E0 sp0 100000 n) m lc6_82 fr' h Q) :
    wCode E0 (aCall E0 sp0 100000 n) m lc6_73 fr h Q := by
  have hk := kind_right other
  by_cases h1 : other = [116]
  · have d1 : (other == [116]) = true := by simp [h1]
    rw [if_pos h1] at hk
    simp only [w_lc6_73, go_sem, reduceIte, Nat.reduceEqDiff, Nat.reduceAdd, Nat.reduceMul, Nat.reduceSub, Int.reduceLE, Int.reduceLT, Int.reduceNe, Int.reduceToNat, Int.reducePow, Int.reduceAdd, Int.reduceMul, reduceCtorEq, true_and, and_true, cond_true, cond_false, List.map_cons, List.map_nil, Option.map_some, Option.map_none, List.getElem?_cons_zero, List.getElem?_cons_succ, ne_eq, not_false_eq_true, List.nil_append, List.append_nil, List.cons_append, List.contains_cons, List.contains_nil, Nat.reduceBEq, Bool.or_false, Bool.false_or, Bool.true_or, Bool.or_true, hf.f2, d1]
    exact hQ _ (by repeat (first | exact hf | refine G6.set ?_ (by decide))) (by simp only [go_sem, reduceIte, Nat.reduceEqDiff, Nat.reduceAdd, Nat.reduceMul, Nat.reduceSub, Int.reduceLE, Int.reduceLT, Int.reduceNe, Int.reduceToNat, Int.reducePow, Int.reduceAdd, Int.reduceMul, reduceCtorEq, true_and, and_true, cond_true, cond_false, List.map_cons, List.map_nil, Option.map_some, Option.map_none, List.getElem?_cons_zero, List.getElem?_cons_succ, ne_eq, not_false_eq_true, List.nil_append, List.append_nil, List.cons_append, List.contains_cons, List.contains_nil, Nat.reduceBEq, Bool.or_false, Bool.false_or, Bool.true_or, Bool.or_true, hk]; rfl) (by simp only [go_sem, reduceIte, Nat.reduceEqDiff, Nat.reduceAdd, Nat.reduceMul, Nat.reduceSub, Int.reduceLE, Int.reduceLT, Int.reduceNe, Int.reduceToNat, Int.reducePow, Int.reduceAdd, Int.reduceMul, reduceCtorEq, true_and, and_true, cond_true, cond_false, List.map_cons, List.map_nil, Option.map_some, Option.map_none, List.getElem?_cons_zero, List.getElem?_cons_succ, ne_eq, not_false_eq_true, List.nil_append, List.append_nil, List.cons_append, List.contains_cons, List.contains_nil, Nat.reduceBEq, Bool.or_false, Bool.false_or, Bool.true_or, Bool.or_true, f31])
  have d1 : (other == [116]) = false := beq_false_of_ne h1
  rw [if_neg h1] at hk
  by_cases h2 : other = [108]
  · have d2 : (other == [108]) = true := by simp [h2]
    rw [if_pos h2] at hk
    simp only [w_lc6_73, go_sem, reduceIte, Nat.reduceEqDiff, Nat.reduceAdd, Nat.reduceMul, Nat.reduceSub, Int.reduceLE, Int.reduceLT, Int.reduceNe, Int.reduceToNat, Int.reducePow, Int.reduceAdd, Int.reduceMul, reduceCtorEq, true_and, and_true, cond_true, cond_false, List.map_cons, List.map_nil, Option.map_some, Option.map_none, List.getElem?_cons_zero, List.getElem?_cons_succ, ne_eq, not_false_eq_true, List.nil_append, List.append_nil, List.cons_append, List.contains_cons, List.contains_nil, Nat.reduceBEq, Bool.or_false, Bool.false_or, Bool.true_or, Bool.or_true, hf.f2, d1, d2]
    exact hQ _ (by repeat (first | exact hf | refine G6.set ?_ (by decide))) (by simp only [go_sem, reduceIte, Nat.reduceEqDiff, Nat.reduceAdd, Nat.reduceMul, Nat.reduceSub, Int.reduceLE, Int.reduceLT, Int.reduceNe, Int.reduceToNat, Int.reducePow, Int.reduceAdd, Int.reduceMul, reduceCtorEq, true_and, and_true, cond_true, cond_false, List.map_cons, List.map_nil, Option.map_some, Option.map_none, List.getElem?_cons_zero, List.getElem?_cons_succ, ne_eq, not_false_eq_true, List.nil_append, List.append_nil, List.cons_append, List.contains_cons, List.contains_nil, Nat.reduceBEq, Bool.or_false, Bool.false_or, Bool.true_or, Bool.or_true, hk]; rfl) (by simp only [go_sem, reduceIte, Nat.reduceEqDiff, Nat.reduceAdd, Nat.reduceMul, Nat.reduceSub, Int.reduceLE, Int.reduceLT, Int.reduceNe, Int.reduceToNat, Int.reducePow, Int.reduceAdd, Int.reduceMul, reduceCtorEq, true_and, and_true, cond_true, cond_false, List.map_cons, List.map_nil, Option.map_some, Option.map_none, List.getElem?_cons_zero, List.getElem?_cons_succ, ne_eq, not_false_eq_true, List.nil_append, List.append_nil, List.cons_append, List.contains_cons, List.contains_nil, Nat.reduceBEq, Bool.or_false, Bool.false_or, Bool.true_or, Bool.or_true, f31])
  have d2 : (other == [108]) = false := beq_false_of_ne h2
  rw [if_neg h2] at hk
  generalize rightB other = r at *
  cases r with
  | false =>
    rw [if_neg (by simp)] at hk
    simp only [w_lc6_73, go_sem, reduceIte, Nat.reduceEqDiff, Nat.reduceAdd, Nat.reduceMul, Nat.reduceSub, Int.reduceLE, Int.reduceLT, Int.reduceNe, Int.reduceToNat, Int.reducePow, Int.reduceAdd, Int.reduceMul, reduceCtorEq, true_and, and_true, cond_true, cond_false, List.map_cons, List.map_nil, Option.map_some, Option.map_none, List.getElem?_cons_zero, List.getElem?_cons_succ, ne_eq, not_false_eq_true, List.nil_append, List.append_nil, List.cons_append, List.contains_cons, List.contains_nil, Nat.reduceBEq, Bool.or_false, Bool.false_or, Bool.true_or, Bool.or_true, hf.f2, f31, d1, d2]
    exact hQ _ (by repeat (first | exact hf | refine G6.set ?_ (by decide))) (by simp only [go_sem, reduceIte, Nat.reduceEqDiff, Nat.reduceAdd, Nat.reduceMul, Nat.reduceSub, Int.reduceLE, Int.reduceLT, Int.reduceNe, Int.reduceToNat, Int.reducePow, Int.reduceAdd, Int.reduceMul, reduceCtorEq, true_and, and_true, cond_true, cond_false, List.map_cons, List.map_nil, Option.map_some, Option.map_none, List.getElem?_cons_zero, List.getElem?_cons_succ, ne_eq, not_false_eq_true, List.nil_append, List.append_nil, List.cons_append, List.contains_cons, List.contains_nil, Nat.reduceBEq, Bool.or_false, Bool.false_or, Bool.true_or, Bool.or_true, hk, f30]; rfl) (by simp only [go_sem, reduceIte, Nat.reduceEqDiff, Nat.reduceAdd, Nat.reduceMul, Nat.reduceSub, Int.reduceLE, Int.reduceLT, Int.reduceNe, Int.reduceToNat, Int.reducePow, Int.reduceAdd, Int.reduceMul, reduceCtorEq, true_and, and_true, cond_true, cond_false, List.map_cons, List.map_nil, Option.map_some, Option.map_none, List.getElem?_cons_zero, List.getElem?_cons_succ, ne_eq, not_false_eq_true, List.nil_append, List.append_nil, List.cons_append, List.contains_cons, List.contains_nil, Nat.reduceBEq, Bool.or_false, Bool.false_or, Bool.true_or, Bool.or_true, f31])
  | true =>
    rw [if_pos rfl] at hk
    simp only [w_lc6_73, go_sem, reduceIte, Nat.reduceEqDiff, Nat.reduceAdd, Nat.reduceMul, Nat.reduceSub, Int.reduceLE, Int.reduceLT, Int.reduceNe, Int.reduceToNat, Int.reducePow, Int.reduceAdd, Int.reduceMul, reduceCtorEq, true_and, and_true, cond_true, cond_false, List.map_cons, List.map_nil, Option.map_some, Option.map_none, List.getElem?_cons_zero, List.getElem?_cons_succ, ne_eq, not_false_eq_true, List.nil_append, List.append_nil, List.cons_append, List.contains_cons, List.contains_nil, Nat.reduceBEq, Bool.or_false, Bool.false_or, Bool.true_or, Bool.or_true, hf.f2, f31, d1, d2]
    exact hQ _ (by repeat (first | exact hf | refine G6.set ?_ (by decide))) (by simp only [go_sem, reduceIte, Nat.reduceEqDiff, Nat.reduceAdd, Nat.reduceMul, Nat.reduceSub, Int.reduceLE, Int.reduceLT, Int.reduceNe, Int.reduceToNat, Int.reducePow, Int.reduceAdd, Int.reduceMul, reduceCtorEq, true_and, and_true, cond_true, cond_false, List.map_cons, List.map_nil, Option.map_some, Option.map_none, List.getElem?_cons_zero, List.getElem?_cons_succ, ne_eq, not_false_eq_true, List.nil_append, List.append_nil, List.cons_append, List.contains_cons, List.contains_nil, Nat.reduceBEq, Bool.or_false, Bool.false_or, Bool.true_or, Bool.or_true, hk]; rfl) (by simp only [go_sem, reduceIte, Nat.reduceEqDiff, Nat.reduceAdd, Nat.reduceMul, Nat.reduceSub, Int.reduceLE, Int.reduceLT, Int.reduceNe, Int.reduceToNat, Int.reducePow, Int.reduceAdd, Int.reduceMul, reduceCtorEq, true_and, and_true, cond_true, cond_false, List.map_cons, List.map_nil, Option.map_some, Option.map_none, List.getElem?_cons_zero, List.getElem?_cons_succ, ne_eq, not_false_eq_true, List.nil_append, List.append_nil, List.cons_append, List.contains_cons, List.contains_nil, Nat.reduceBEq, Bool.or_false, Bool.false_or, Bool.true_or, Bool.or_true, f31])

theorem topKE {n m : Nat} (hn : 10 ≤ n) {h0 h : AH} {fr : Nat → AV} {pv nv tv av : AV} {other : List UInt8} (ho : other.length ≤ 9223372036854775807) (hf : G6 fr pv other tv av) (f30 : fr 30 = .int .i64 (kindF other : Nat)) (f31 : fr 31 = .bool (rightB other))
    {ns ts al : List (List UInt8)} (t : Three h0 h nv tv av ns ts al) (hl3 : al.length ≤ 1000)
    {Q : CR → Prop} (hQ : ∀ fr' h' av', G6 fr' pv other tv av' → Three h0 h' nv tv av' ns ts (al ++ if rightB other = true then [] else [other]) → wCode E0 (aCall E0 sp0 100000 n) m lc6_88 fr' h' Q) :
    wCode E0 (aCall E0 sp0 100000 n) m lc6_82 fr h Q := by
  obtain ⟨_, c1, h1, rfl, k1⟩ := kind_con other ho h n (by omega)
  have d1 : (((kindF other : Nat) : Int) == ((kindF other : Nat) : Int)) = true := by simp
  have t1 := t.same k1
  generalize hr : rightB other = r at *
  cases r with
  | true =>
    simp only [w_lc6_82, go_sem, reduceIte, Nat.reduceEqDiff, Nat.reduceAdd, Nat.reduceMul, Nat.reduceSub, Int.reduceLE, Int.reduceLT, Int.reduceNe, Int.reduceToNat, Int.reducePow, Int.reduceAdd, Int.reduceMul, reduceCtorEq, true_and, and_true, cond_true, cond_false, List.map_cons, List.map_nil, Option.map_some, Option.map_none, List.getElem?_cons_zero, List.getElem?_cons_succ, ne_eq, not_false_eq_true, List.nil_append, List.append_nil, List.cons_append, List.contains_cons, List.contains_nil, Nat.reduceBEq, Bool.or_false, Bool.false_or, Bool.true_or, Bool.or_true, hf.f2, f30, f31, st_callf fs60, c1, d1]
    refine hQ _ _ av (by repeat (first | exact hf | refine G6.set ?_ (by decide))) ?_
    rw [if_pos rfl, List.append_nil]
    exact t1
  | false =>
    obtain ⟨av', h2, e2, o2, g2⟩ := append_text (s := other) t1.rot.rot.oa (by omega)
    have t2 := (t1.rot.rot.put o2 g2).rot
    simp only [w_lc6_82, go_sem, reduceIte, Nat.reduceEqDiff, Nat.reduceAdd, Nat.reduceMul, Nat.reduceSub, Int.reduceLE, Int.reduceLT, Int.reduceNe, Int.reduceToNat, Int.reducePow, Int.reduceAdd, Int.reduceMul, reduceCtorEq, true_and, and_true, cond_true, cond_false, List.map_cons, List.map_nil, Option.map_some, Option.map_none, List.getElem?_cons_zero, List.getElem?_cons_succ, ne_eq, not_false_eq_true, List.nil_append, List.append_nil, List.cons_append, List.contains_cons, List.contains_nil, Nat.reduceBEq, Bool.or_false, Bool.false_or, Bool.true_or, Bool.or_true, hf.f2, hf.f9, f30, f31, st_callf fs60, c1, d1, build_text, e2]
    refine hQ _ _ av' ⟨by simp only [go_sem, reduceIte, Nat.reduceEqDiff, Nat.reduceAdd, Nat.reduceMul, Nat.reduceSub, Int.reduceLE, Int.reduceLT, Int.reduceNe, Int.reduceToNat, Int.reducePow, Int.reduceAdd, Int.reduceMul, reduceCtorEq, true_and, and_true, cond_true, cond_false, List.map_cons, List.map_nil, Option.map_some, Option.map_none, List.getElem?_cons_zero, List.getElem?_cons_succ, ne_eq, not_false_eq_true, List.nil_append, List.append_nil, List.cons_append, List.contains_cons, List.contains_nil, Nat.reduceBEq, Bool.or_false, Bool.false_or, Bool.true_or, Bool.or_true, hf.f1], by simp only [go_sem, reduceIte, Nat.reduceEqDiff, Nat.reduceAdd, Nat.reduceMul, Nat.reduceSub, Int.reduceLE, Int.reduceLT, Int.reduceNe, Int.reduceToNat, Int.reducePow, Int.reduceAdd, Int.reduceMul, reduceCtorEq, true_and, and_true, cond_true, cond_false, List.map_cons, List.map_nil, Option.map_some, Option.map_none, List.getElem?_cons_zero, List.getElem?_cons_succ, ne_eq, not_false_eq_true, List.nil_append, List.append_nil, List.cons_append, List.contains_cons, List.contains_nil, Nat.reduceBEq, Bool.or_false, Bool.false_or, Bool.true_or, Bool.or_true, hf.f2], by simp only [go_sem, reduceIte, Nat.reduceEqDiff, Nat.reduceAdd, Nat.reduceMul, Nat.reduceSub, Int.reduceLE, Int.reduceLT, Int.reduceNe, Int.reduceToNat, Int.reducePow, Int.reduceAdd, Int.reduceMul, reduceCtorEq, true_and, and_true, cond_true, cond_false, List.map_cons, List.map_nil, Option.map_some, Option.map_none, List.getElem?_cons_zero, List.getElem?_cons_succ, ne_eq, not_false_eq_true, List.nil_append, List.append_nil, List.cons_append, List.contains_cons, List.contains_nil, Nat.reduceBEq, Bool.or_false, Bool.false_or, Bool.true_or, Bool.or_true, hf.f8], by simp only [go_sem, reduceIte, Nat.reduceEqDiff, Nat.reduceAdd, Nat.reduceMul, Nat.reduceSub, Int.reduceLE, Int.reduceLT, Int.reduceNe, Int.reduceToNat, Int.reducePow, Int.reduceAdd, Int.reduceMul, reduceCtorEq, true_and, and_true, cond_true, cond_false, List.map_cons, List.map_nil, Option.map_some, Option.map_none, List.getElem?_cons_zero, List.getElem?_cons_succ, ne_eq, not_false_eq_true, List.nil_append, List.append_nil, List.cons_append, List.contains_cons, List.contains_nil, Nat.reduceBEq, Bool.or_false, Bool.false_or, Bool.true_or, Bool.or_true]⟩ ?_
    rw [if_neg (by simp)]
    exact t2
end Go.Proofs.Yteblojfcalgoeaa

/- Seat 1: TopKeyed: a text is put among others. Conditions: none. -/
set_option linter.unusedVariables false
set_option linter.unusedSimpArgs false
namespace Go.Proofs.Yteblojfcalgoeaa
open Go Go.RowKit
set_option maxRecDepth 100000

section
variable {E : Env} {h : AH}
/-- To a slice that is full: a new array. -/
theorem append_cap {t t' e sz by_ : Nat} (ht : slT E t e sz by_ = true) (ht' : seqT E t' = true) {i a m : Nat} {x : AV} {cs xs : List AV} (hb : GS sz h (.sl i 0 a a false) a cs) (hca : cs.all AV.atom = true) (hx : newsOf h sz x = some (m, xs)) (hxl : xs.length = m * sz) (hxa : xs.all AV.atom = true) (h0 : 0 < m) (hn : (a + m) * by_ ≤ 140737488355328) :
    ∃ v' h', eBuiltin E h .append [.sl i 0 a a false, x] [t, t'] = some (v', h') ∧ OwnA e sz h' v' (a + m) (cs ++ xs) ∧ Keep h h' [] := by
  obtain ⟨ti, ei, h1, h2, h3, h4, h5, h6, h7⟩ := slT_spec ht
  have hap : eBuiltin E h .append [.sl i 0 a a false, x] [t, t'] = aAppend h e ei (.sl i 0 a a false) m xs := by
    unfold seqT at ht'
    split at ht'
    case h_2 => cases ht'
    rename_i xi hxi
    have b1 : Nat.blt 0 ei.size = true := Nat.ble_eq_true_of_le (by omega)
    have b2 : Nat.blt 0 ei.bytes = true := Nat.ble_eq_true_of_le (by omega)
    simp only [eBuiltin, h1, h2, h3, hxi, h4, hx]
    rw [h4] at b1
    rw [b1, b2]
    split at ht'
    · rename_i hu; simp only [hu]; rfl
    · rename_i hu; simp only [hu]; rfl
    · cases ht'
  have hnw := hb.news
  have hgc : getCells h (a * sz) (.sl i 0 a a false) = some cs := by
    simp only [newsOf] at hnw
    split at hnw
    · rename_i cs' e; cases hnw; exact e
    · cases hnw
  rw [hap]
  unfold aAppend
  rw [show Nat.beq m 0 = false from beqF (by omega), cond_false]
  have hbb : Nat.ble (a + m) a = false := by
    cases hb : Nat.ble (a + m) a
    · rfl
    · have := Nat.le_of_ble_eq_true hb; omega
  simp only [h4, h5, hbb, cond_false, hgc]
  rw [Nat.ble_eq_true_of_le hn, cond_true]
  refine ⟨_, _, rfl, .inr ⟨by rw [List.length_append, hb.len, hxl, Nat.add_mul], by rw [List.all_append, hca, hxa]; rfl, h.next, Nat.lt_succ_self _, .inr ⟨rfl, get_push_new rfl⟩⟩, Keep.push h _⟩
/-- A slice's beginning, and no room behind it. -/
theorem slice_three {t e sz by_ : Nat} (ht : slT E t e sz by_ = true) {v : AV} {n a : Nat} {cs : List AV} (ho : OwnA e sz h v n cs) (ha : a ≤ n) {k k' : IntKind} :
    ∃ v', aSlice E t v none (some (.int k a)) (some (.int k' a)) = some v' ∧ ((v' = .nils ∧ a = 0) ∨ ∃ i, v' = .sl i 0 a a false ∧ GS sz h v' a (cs.take (a * sz))) := by
  obtain ⟨ti, ei, h1, h2, h3, h4, h5, h6, h7⟩ := slT_spec ht
  have bn : ∀ (q : IntKind) (d top : Nat), a ≤ top → aBnd (some (.int q (a : Nat))) d top = some a := fun q d top hl => bnd_ok (.inr ⟨q, rfl⟩) hl
  have hz : ∀ c : Nat, (bif Nat.beq a c then 0 else 0 + 0 * ei.size) = 0 := fun c => by cases Nat.beq a c <;> simp
  rcases ho with ⟨rfl, rfl, rfl⟩ | ⟨hl, hat, i, hi, ⟨rfl, hg⟩ | ⟨rfl, hg⟩⟩
  · have : a = 0 := by omega
    subst this
    refine ⟨.nils, ?_, .inl ⟨rfl, rfl⟩⟩
    unfold aSlice
    simp only [h1, h2, h3]
    rw [bn k' 0 0 (Nat.le_refl _)]
    simp only
    rw [bn k 0 0 (Nat.le_refl _)]
    rfl
  · refine ⟨.sl i 0 a a false, ?_, .inr ⟨i, rfl, ?_⟩⟩
    · unfold aSlice
      simp only [h1, h2, h3]
      rw [bn k' n n ha]
      simp only
      rw [bn k n a (Nat.le_refl _)]
      simp only [aBnd, Nat.sub_zero, hz]
    · refine ⟨⟨rfl, fun _ => Nat.le_refl _⟩, ?_, hi, cs, e, .own, hg, ?_, by rw [List.drop_zero]⟩
      · have := Nat.mul_le_mul_right sz ha
        rw [List.length_take]; omega
      · have := Nat.mul_le_mul_right sz ha
        omega
  · refine ⟨.sl i 0 a a false, ?_, .inr ⟨i, rfl, ?_⟩⟩
    · unfold aSlice
      simp only [h1, h2, h3]
      rw [bn k' n n ha]
      simp only
      rw [bn k n a (Nat.le_refl _)]
      simp only [aBnd, Nat.sub_zero, hz]
    · refine ⟨⟨rfl, fun _ => Nat.le_refl _⟩, ?_, hi, cs, e, .loose, hg, ?_, by rw [List.drop_zero]⟩
      · have := Nat.mul_le_mul_right sz ha
        rw [List.length_take]; omega
      · have := Nat.mul_le_mul_right sz ha
        omega
end
theorem strs_drop (D : List (List UInt8)) (a : Nat) : (strs D).drop a = strs (D.drop a) := by simp [strs, List.map_drop]
theorem strs_take (D : List (List UInt8)) (a : Nat) : (strs D).take a = strs (D.take a) := by simp [strs, List.map_take]

theorem insert_text {h : AH} {dv : AV} {D : List (List UInt8)} (ho : OwnA 9 1 h dv D.length (strs D)) {a : Nat} (ha : a ≤ D.length) (hl : D.length ≤ 1000) (t : List UInt8) :
    ∃ v1 v2 w1 h1 w2 h2, aSlice E0 48 dv none (some (.int .i64 (a : Nat))) (some (.int .i64 (a : Nat))) = some v1 ∧ aSlice E0 48 dv (some (.int .i64 (a : Nat))) none none = some v2 ∧
      eBuiltin E0 (h.push (.cells [.str t] 9 .own)) .append [.sl h.next 0 1 1 false, v2] [48, 48] = some (w1, h1) ∧ eBuiltin E0 h1 .append [v1, w1] [48, 48] = some (w2, h2) ∧
      OwnA 9 1 h2 w2 (D.take a ++ t :: D.drop a).length (strs (D.take a ++ t :: D.drop a)) ∧ Keep h h2 [] := by
  have hlen : (D.take a ++ t :: D.drop a).length = D.length + 1 := by simp; omega
  have hst : strs (D.take a ++ t :: D.drop a) = strs (D.take a) ++ ([.str t] ++ strs (D.drop a)) := by simp [strs]
  obtain ⟨v2, e2, g2, _⟩ := slice_gen sl48 ho.gs (lo := some (.int .i64 (a : Nat))) (hi := none) (a := a) (b := D.length) (.inr ⟨_, rfl⟩) (.inl ⟨rfl, rfl⟩) ha (Nat.le_refl _)
  have hc2 : (List.take (D.length * 1) (strs D)).drop (a * 1) = strs (D.drop a) := by
    rw [Nat.mul_one, Nat.mul_one, List.take_of_length_le (by rw [strs_len]; exact Nat.le_refl _), strs_drop]
  rw [hc2] at g2
  obtain ⟨v1, e1, hv1⟩ := slice_three sl48 ho ha (k := .i64) (k' := .i64)
  have k0 : Keep h (h.push (.cells [.str t] 9 .own)) [] := Keep.push h _
  obtain ⟨w1, h1, e3, o3, g3⟩ := append_gen sl48 seq48 (OwnA.own (h := h) (e := 9) (sz := 1) (n := 1) (cs := [.str t]) rfl rfl) (g2.keep k0 (by simp)).news (by rw [strs_len]; simp) (strs_atom _) (by omega)
  have k1 : Keep h h1 [] := k0.fresh g3.keep (fun j hj => by simp [ids] at hj; omega)
  have hx := o3.gs.news
  have hxa : ([AV.str t] ++ strs (D.drop a)).all AV.atom = true := by rw [List.all_append, strs_atom]; rfl
  rcases hv1 with ⟨rfl, rfl⟩ | ⟨i, rfl, hb⟩
  · obtain ⟨w2, h2, e4, o4, g4⟩ := append_gen sl48 seq48 (OwnA.nil (e := 9) (sz := 1) (h := h1)) hx o3.gs.len hxa (by omega)
    refine ⟨_, _, _, _, _, _, e1, e2, e3, e4, ?_, (k1.trans g4.keep).mono (by simp [ids])⟩
    rw [hlen, hst]
    have hn : 0 + (1 + (D.length - 0)) = D.length + 1 := by omega
    rw [hn] at o4
    exact o4
  · have hct : (strs D).take (a * 1) = strs (D.take a) := by rw [Nat.mul_one, strs_take]
    rw [hct] at hb
    obtain ⟨w2, h2, e4, o4, g4⟩ := append_cap sl48 seq48 (hb.keep k1 (by simp)) (strs_atom _) hx o3.gs.len hxa (by omega) (by omega)
    refine ⟨_, _, _, _, _, _, e1, e2, e3, e4, ?_, (k1.trans g4).mono (by simp)⟩
    rw [hlen, hst]
    have hn : a + (1 + (D.length - a)) = D.length + 1 := by omega
    rw [hn] at o4
    exact o4
end Go.Proofs.Yteblojfcalgoeaa

/- Seat 1: TopKeyed: the keys that are due, walked. Conditions: none. -/
set_option linter.unusedVariables false
set_option linter.unusedSimpArgs false
namespace Go.Proofs.Yteblojfcalgoeaa
open Go Go.RowKit
set_option maxRecDepth 100000

/-- What stays through a round of the texts. -/
structure H6 (fr : Nat → AV) (av : AV) (b : List UInt8) (dv tv : AV) (N i : Nat) : Prop where
  f9 : fr 9 = av
  f34 : fr 34 = .str b
  f35 : fr 35 = dv
  f298 : fr 298 = tv
  f299 : fr 299 = .int .i64 (N : Nat)
  f300 : fr 300 = .int .i64 (i : Nat)
theorem H6.set {fr : Nat → AV} {av : AV} {b : List UInt8} {dv tv : AV} {N i : Nat} (hf : H6 fr av b dv tv N i) {t : Nat} {v : AV} (ht : t ≠ 9 ∧ t ≠ 34 ∧ t ≠ 35 ∧ t ≠ 298 ∧ t ≠ 299 ∧ t ≠ 300) : H6 (setF fr (some t) v) av b dv tv N i := by
  obtain ⟨t1, t2, t3, t4, t5, t6⟩ := ht
  have g : ∀ u, t ≠ u → setF fr (some t) v u = fr u := fun u hu => by rw [setF_some, if_neg (Ne.symm hu)]
  exact ⟨(g 9 t1).trans hf.f9, (g 34 t2).trans hf.f34, (g 35 t3).trans hf.f35, (g 298 t4).trans hf.f298, (g 299 t5).trans hf.f299, (g 300 t6).trans hf.f300⟩

theorem dueA {n m : Nat} (hm : 9223372036854775808 ≤ m) {h : AH} {fr : Nat → AV} {av dv tv : AV} {b t : List UInt8} {N i : Nat} (hf : H6 fr av b dv tv N i) (h37 : fr 37 = .str t) (hb : b.length ≤ 3) (htl : t.length ≤ 6)
    {D : List (List UInt8)} (ho : OwnA 9 1 h dv D.length (strs D)) (hl : D.length ≤ 1000)
    {Q : CR → Prop} (hQ : ∀ fr' a, H6 fr' av b dv tv N i → fr' 37 = .str t → fr' 38 = .int .i64 (a : Nat) → fr' 39 = .bool (prefB t b) → a ≤ D.length → (∀ j x, j < a → D[j]? = some x → x < t) → (∀ x, D[a]? = some x → ¬ x < t) → wCode E0 (aCall E0 sp0 100000 n) m lc6_100 fr' h Q) :
    wCode E0 (aCall E0 sp0 100000 n) m lc6_95 fr h Q := by
  have loop : ∀ fr0 : Nat → AV, H6 fr0 av b dv tv N i → fr0 37 = .str t → fr0 38 = .int .i64 0 → fr0 39 = .bool (prefB t b) → wCode E0 (aCall E0 sp0 100000 n) m lc6_96 fr0 h Q := by
    intro fr0 hf f37 f38 f39
    simp only [w_lc6_96, go_sem, reduceIte, Nat.reduceEqDiff, Nat.reduceAdd, Nat.reduceMul, Nat.reduceSub, Int.reduceLE, Int.reduceLT, Int.reduceNe, Int.reduceToNat, Int.reducePow, Int.reduceAdd, Int.reduceMul, reduceCtorEq, true_and, and_true, cond_true, cond_false, List.map_cons, List.map_nil, Option.map_some, Option.map_none, List.getElem?_cons_zero, List.getElem?_cons_succ, ne_eq, not_false_eq_true, List.nil_append, List.append_nil, List.cons_append, List.contains_cons, List.contains_nil, Nat.reduceBEq, Bool.or_false, Bool.false_or, Bool.true_or, Bool.or_true]
    refine wLoop_inv (fun k fr h1 => ∃ a, k = D.length - a ∧ a ≤ D.length ∧ h1 = h ∧ H6 fr av b dv tv N i ∧ fr 37 = .str t ∧ fr 38 = .int .i64 (a : Nat) ∧ fr 39 = .bool (prefB t b) ∧ (∀ j x, j < a → D[j]? = some x → x < t)) ?_ m D.length _ _ (by omega)
      ⟨0, rfl, by omega, rfl, hf, f37, f38, f39, fun j x hj => absurd hj (Nat.not_lt_zero _)⟩
    rintro k fr hh ⟨a, rfl, ha, rfl, hf, f37, f38, f39, hlt⟩
    by_cases hc : a < D.length
    case neg =>
      have d1 : decide ((a : Int) < (D.length : Int)) = false := decide_eq_false (by omega)
      have hnone : D[a]? = none := List.getElem?_eq_none (by omega)
      simp only [go_sem, reduceIte, Nat.reduceEqDiff, Nat.reduceAdd, Nat.reduceMul, Nat.reduceSub, Int.reduceLE, Int.reduceLT, Int.reduceNe, Int.reduceToNat, Int.reducePow, Int.reduceAdd, Int.reduceMul, reduceCtorEq, true_and, and_true, cond_true, cond_false, List.map_cons, List.map_nil, Option.map_some, Option.map_none, List.getElem?_cons_zero, List.getElem?_cons_succ, ne_eq, not_false_eq_true, List.nil_append, List.append_nil, List.cons_append, List.contains_cons, List.contains_nil, Nat.reduceBEq, Bool.or_false, Bool.false_or, Bool.true_or, Bool.or_true, hf.f35, f37, f38, f39, len_gen sl48 ho.gs, d1]
      exact hQ _ a (by repeat (first | exact hf | refine H6.set ?_ (by decide))) (by simp only [go_sem, reduceIte, Nat.reduceEqDiff, Nat.reduceAdd, Nat.reduceMul, Nat.reduceSub, Int.reduceLE, Int.reduceLT, Int.reduceNe, Int.reduceToNat, Int.reducePow, Int.reduceAdd, Int.reduceMul, reduceCtorEq, true_and, and_true, cond_true, cond_false, List.map_cons, List.map_nil, Option.map_some, Option.map_none, List.getElem?_cons_zero, List.getElem?_cons_succ, ne_eq, not_false_eq_true, List.nil_append, List.append_nil, List.cons_append, List.contains_cons, List.contains_nil, Nat.reduceBEq, Bool.or_false, Bool.false_or, Bool.true_or, Bool.or_true, f37]) (by simp only [go_sem, reduceIte, Nat.reduceEqDiff, Nat.reduceAdd, Nat.reduceMul, Nat.reduceSub, Int.reduceLE, Int.reduceLT, Int.reduceNe, Int.reduceToNat, Int.reducePow, Int.reduceAdd, Int.reduceMul, reduceCtorEq, true_and, and_true, cond_true, cond_false, List.map_cons, List.map_nil, Option.map_some, Option.map_none, List.getElem?_cons_zero, List.getElem?_cons_succ, ne_eq, not_false_eq_true, List.nil_append, List.append_nil, List.cons_append, List.contains_cons, List.contains_nil, Nat.reduceBEq, Bool.or_false, Bool.false_or, Bool.true_or, Bool.or_true, f38]) (by simp only [go_sem, reduceIte, Nat.reduceEqDiff, Nat.reduceAdd, Nat.reduceMul, Nat.reduceSub, Int.reduceLE, Int.reduceLT, Int.reduceNe, Int.reduceToNat, Int.reducePow, Int.reduceAdd, Int.reduceMul, reduceCtorEq, true_and, and_true, cond_true, cond_false, List.map_cons, List.map_nil, Option.map_some, Option.map_none, List.getElem?_cons_zero, List.getElem?_cons_succ, ne_eq, not_false_eq_true, List.nil_append, List.append_nil, List.cons_append, List.contains_cons, List.contains_nil, Nat.reduceBEq, Bool.or_false, Bool.false_or, Bool.true_or, Bool.or_true, f39]) ha hlt (fun x hx => by rw [hnone] at hx; cases hx)
    case pos =>
      have d1 : decide ((a : Int) < (D.length : Int)) = true := decide_eq_true (by omega)
      have hx : D[a]? = some D[a] := List.getElem?_eq_getElem hc
      generalize D[a] = x at hx
      obtain ⟨p, i1, i2⟩ := index_load sl48 at9 ho.gs (k := .i64) (strs_get hx)
      by_cases hxt : x < t
      · have d2 : Op.bytesLess x t = true := by rw [bl_eq]; exact decide_eq_true hxt
        simp only [go_sem, reduceIte, Nat.reduceEqDiff, Nat.reduceAdd, Nat.reduceMul, Nat.reduceSub, Int.reduceLE, Int.reduceLT, Int.reduceNe, Int.reduceToNat, Int.reducePow, Int.reduceAdd, Int.reduceMul, reduceCtorEq, true_and, and_true, cond_true, cond_false, List.map_cons, List.map_nil, Option.map_some, Option.map_none, List.getElem?_cons_zero, List.getElem?_cons_succ, ne_eq, not_false_eq_true, List.nil_append, List.append_nil, List.cons_append, List.contains_cons, List.contains_nil, Nat.reduceBEq, Bool.or_false, Bool.false_or, Bool.true_or, Bool.or_true, hf.f35, f37, f38, f39, len_gen sl48 ho.gs, d1, i1, i2, d2, w_inc (show a ≤ 1000000000 by omega)]
        refine ⟨D.length - (a + 1), by omega, a + 1, rfl, by omega, (by repeat (first | exact hf | refine H6.set ?_ (by decide))), rfl, fun j y hj hy => ?_⟩
        by_cases hja : j = a
        · subst hja; rw [hx] at hy; cases hy; exact hxt
        · exact hlt j y (by omega) hy
      · have d2 : Op.bytesLess x t = false := by rw [bl_eq]; exact decide_eq_false hxt
        simp only [go_sem, reduceIte, Nat.reduceEqDiff, Nat.reduceAdd, Nat.reduceMul, Nat.reduceSub, Int.reduceLE, Int.reduceLT, Int.reduceNe, Int.reduceToNat, Int.reducePow, Int.reduceAdd, Int.reduceMul, reduceCtorEq, true_and, and_true, cond_true, cond_false, List.map_cons, List.map_nil, Option.map_some, Option.map_none, List.getElem?_cons_zero, List.getElem?_cons_succ, ne_eq, not_false_eq_true, List.nil_append, List.append_nil, List.cons_append, List.contains_cons, List.contains_nil, Nat.reduceBEq, Bool.or_false, Bool.false_or, Bool.true_or, Bool.or_true, hf.f35, f37, f38, f39, len_gen sl48 ho.gs, d1, i1, i2, d2]
        exact hQ _ a (by repeat (first | exact hf | refine H6.set ?_ (by decide))) (by simp only [go_sem, reduceIte, Nat.reduceEqDiff, Nat.reduceAdd, Nat.reduceMul, Nat.reduceSub, Int.reduceLE, Int.reduceLT, Int.reduceNe, Int.reduceToNat, Int.reducePow, Int.reduceAdd, Int.reduceMul, reduceCtorEq, true_and, and_true, cond_true, cond_false, List.map_cons, List.map_nil, Option.map_some, Option.map_none, List.getElem?_cons_zero, List.getElem?_cons_succ, ne_eq, not_false_eq_true, List.nil_append, List.append_nil, List.cons_append, List.contains_cons, List.contains_nil, Nat.reduceBEq, Bool.or_false, Bool.false_or, Bool.true_or, Bool.or_true, f37]) (by simp only [go_sem, reduceIte, Nat.reduceEqDiff, Nat.reduceAdd, Nat.reduceMul, Nat.reduceSub, Int.reduceLE, Int.reduceLT, Int.reduceNe, Int.reduceToNat, Int.reducePow, Int.reduceAdd, Int.reduceMul, reduceCtorEq, true_and, and_true, cond_true, cond_false, List.map_cons, List.map_nil, Option.map_some, Option.map_none, List.getElem?_cons_zero, List.getElem?_cons_succ, ne_eq, not_false_eq_true, List.nil_append, List.append_nil, List.cons_append, List.contains_cons, List.contains_nil, Nat.reduceBEq, Bool.or_false, Bool.false_or, Bool.true_or, Bool.or_true, f38]) (by simp only [go_sem, reduceIte, Nat.reduceEqDiff, Nat.reduceAdd, Nat.reduceMul, Nat.reduceSub, Int.reduceLE, Int.reduceLT, Int.reduceNe, Int.reduceToNat, Int.reducePow, Int.reduceAdd, Int.reduceMul, reduceCtorEq, true_and, and_true, cond_true, cond_false, List.map_cons, List.map_nil, Option.map_some, Option.map_none, List.getElem?_cons_zero, List.getElem?_cons_succ, ne_eq, not_false_eq_true, List.nil_append, List.append_nil, List.cons_append, List.contains_cons, List.contains_nil, Nat.reduceBEq, Bool.or_false, Bool.false_or, Bool.true_or, Bool.or_true, f39]) ha hlt (fun y hy => by rw [hx] at hy; cases hy; exact hxt)
  by_cases hc : b.length ≤ t.length
  · have d1 : decide ((b.length : Int) ≤ (t.length : Int)) = true := decide_eq_true (by omega)
    have hmin : (if ((t.length : Nat) : Int) < ((b.length : Nat) : Int) then ((t.length : Nat) : Int) else ((b.length : Nat) : Int)) = ((b.length : Nat) : Int) := if_neg (by omega)
    have e1 : aSlice E0 9 (.str t) none (some (.int .i64 (b.length : Nat))) none = some (.str (t.take b.length)) := by
      have e := slice_str (E := E0) (t := 9) (s := t) (lo := none) (hi := some (.int .i64 (b.length : Nat))) (a := 0) (b := b.length) str9 (.inl ⟨rfl, rfl⟩) (.inr ⟨_, rfl⟩) (by omega) hc
      rw [List.drop_zero, Nat.sub_zero] at e
      exact e
    have hp : (t.take b.length == b) = prefB t b := by unfold prefB; rw [decide_eq_true hc, Bool.true_and]
    simp only [w_lc6_95, go_sem, reduceIte, Nat.reduceEqDiff, Nat.reduceAdd, Nat.reduceMul, Nat.reduceSub, Int.reduceLE, Int.reduceLT, Int.reduceNe, Int.reduceToNat, Int.reducePow, Int.reduceAdd, Int.reduceMul, reduceCtorEq, true_and, and_true, cond_true, cond_false, List.map_cons, List.map_nil, Option.map_some, Option.map_none, List.getElem?_cons_zero, List.getElem?_cons_succ, ne_eq, not_false_eq_true, List.nil_append, List.append_nil, List.cons_append, List.contains_cons, List.contains_nil, Nat.reduceBEq, Bool.or_false, Bool.false_or, Bool.true_or, Bool.or_true, hf.f34, h37, d1, hmin, e1, hp]
    exact loop _ (by repeat (first | exact hf | refine H6.set ?_ (by decide))) (by simp only [go_sem, reduceIte, Nat.reduceEqDiff, Nat.reduceAdd, Nat.reduceMul, Nat.reduceSub, Int.reduceLE, Int.reduceLT, Int.reduceNe, Int.reduceToNat, Int.reducePow, Int.reduceAdd, Int.reduceMul, reduceCtorEq, true_and, and_true, cond_true, cond_false, List.map_cons, List.map_nil, Option.map_some, Option.map_none, List.getElem?_cons_zero, List.getElem?_cons_succ, ne_eq, not_false_eq_true, List.nil_append, List.append_nil, List.cons_append, List.contains_cons, List.contains_nil, Nat.reduceBEq, Bool.or_false, Bool.false_or, Bool.true_or, Bool.or_true, h37]) (by simp only [go_sem, reduceIte, Nat.reduceEqDiff, Nat.reduceAdd, Nat.reduceMul, Nat.reduceSub, Int.reduceLE, Int.reduceLT, Int.reduceNe, Int.reduceToNat, Int.reducePow, Int.reduceAdd, Int.reduceMul, reduceCtorEq, true_and, and_true, cond_true, cond_false, List.map_cons, List.map_nil, Option.map_some, Option.map_none, List.getElem?_cons_zero, List.getElem?_cons_succ, ne_eq, not_false_eq_true, List.nil_append, List.append_nil, List.cons_append, List.contains_cons, List.contains_nil, Nat.reduceBEq, Bool.or_false, Bool.false_or, Bool.true_or, Bool.or_true]) (by simp only [go_sem, reduceIte, Nat.reduceEqDiff, Nat.reduceAdd, Nat.reduceMul, Nat.reduceSub, Int.reduceLE, Int.reduceLT, Int.reduceNe, Int.reduceToNat, Int.reducePow, Int.reduceAdd, Int.reduceMul, reduceCtorEq, true_and, and_true, cond_true, cond_false, List.map_cons, List.map_nil, Option.map_some, Option.map_none, List.getElem?_cons_zero, List.getElem?_cons_succ, ne_eq, not_false_eq_true, List.nil_append, List.append_nil, List.cons_append, List.contains_cons, List.contains_nil, Nat.reduceBEq, Bool.or_false, Bool.false_or, Bool.true_or, Bool.or_true])
  · have d1 : decide ((b.length : Int) ≤ (t.length : Int)) = false := decide_eq_false (by omega)
    have hp : prefB t b = false := by unfold prefB; rw [decide_eq_false hc, Bool.false_and]
    simp only [w_lc6_95, go_sem, reduceIte, Nat.reduceEqDiff, Nat.reduceAdd, Nat.reduceMul, Nat.reduceSub, Int.reduceLE, Int.reduceLT, Int.reduceNe, Int.reduceToNat, Int.reducePow, Int.reduceAdd, Int.reduceMul, reduceCtorEq, true_and, and_true, cond_true, cond_false, List.map_cons, List.map_nil, Option.map_some, Option.map_none, List.getElem?_cons_zero, List.getElem?_cons_succ, ne_eq, not_false_eq_true, List.nil_append, List.append_nil, List.cons_append, List.contains_cons, List.contains_nil, Nat.reduceBEq, Bool.or_false, Bool.false_or, Bool.true_or, Bool.or_true, hf.f34, h37, d1]
    exact loop _ (by repeat (first | exact hf | refine H6.set ?_ (by decide))) (by simp only [go_sem, reduceIte, Nat.reduceEqDiff, Nat.reduceAdd, Nat.reduceMul, Nat.reduceSub, Int.reduceLE, Int.reduceLT, Int.reduceNe, Int.reduceToNat, Int.reducePow, Int.reduceAdd, Int.reduceMul, reduceCtorEq, true_and, and_true, cond_true, cond_false, List.map_cons, List.map_nil, Option.map_some, Option.map_none, List.getElem?_cons_zero, List.getElem?_cons_succ, ne_eq, not_false_eq_true, List.nil_append, List.append_nil, List.cons_append, List.contains_cons, List.contains_nil, Nat.reduceBEq, Bool.or_false, Bool.false_or, Bool.true_or, Bool.or_true, h37]) (by simp only [go_sem, reduceIte, Nat.reduceEqDiff, Nat.reduceAdd, Nat.reduceMul, Nat.reduceSub, Int.reduceLE, Int.reduceLT, Int.reduceNe, Int.reduceToNat, Int.reducePow, Int.reduceAdd, Int.reduceMul, reduceCtorEq, true_and, and_true, cond_true, cond_false, List.map_cons, List.map_nil, Option.map_some, Option.map_none, List.getElem?_cons_zero, List.getElem?_cons_succ, ne_eq, not_false_eq_true, List.nil_append, List.append_nil, List.cons_append, List.contains_cons, List.contains_nil, Nat.reduceBEq, Bool.or_false, Bool.false_or, Bool.true_or, Bool.or_true]) (by simp only [go_sem, reduceIte, Nat.reduceEqDiff, Nat.reduceAdd, Nat.reduceMul, Nat.reduceSub, Int.reduceLE, Int.reduceLT, Int.reduceNe, Int.reduceToNat, Int.reducePow, Int.reduceAdd, Int.reduceMul, reduceCtorEq, true_and, and_true, cond_true, cond_false, List.map_cons, List.map_nil, Option.map_some, Option.map_none, List.getElem?_cons_zero, List.getElem?_cons_succ, ne_eq, not_false_eq_true, List.nil_append, List.append_nil, List.cons_append, List.contains_cons, List.contains_nil, Nat.reduceBEq, Bool.or_false, Bool.false_or, Bool.true_or, Bool.or_true, hp])
end Go.Proofs.Yteblojfcalgoeaa

/- Seat 1: TopKeyed: the keys that are due: the loop. Conditions: none. -/
set_option linter.unusedVariables false
set_option linter.unusedSimpArgs false
namespace Go.Proofs.Yteblojfcalgoeaa
open Go Go.RowKit
set_option maxRecDepth 100000

theorem dueB {n m : Nat} {h : AH} {fr : Nat → AV} {av dv tv : AV} {b t : List UInt8} {N i a : Nat} (hf : H6 fr av b dv tv N i) (h37 : fr 37 = .str t) (h38 : fr 38 = .int .i64 (a : Nat)) (h39 : fr 39 = .bool (prefB t b))
    {D : List (List UInt8)} (ho : OwnA 9 1 h dv D.length (strs D)) (hl : D.length ≤ 1000) (ha : a ≤ D.length) (h1 : ∀ j x, j < a → D[j]? = some x → x < t) (h2 : ∀ x, D[a]? = some x → ¬ x < t)
    {Q : CR → Prop} (hQ : ∀ fr' h' dv', H6 fr' av b dv' tv N i → OwnA 9 1 h' dv' (addD b D t).length (strs (addD b D t)) → Keep h h' [] → Q (.go 0 fr' h')) :
    wCode E0 (aCall E0 sp0 100000 n) m lc6_100 fr h Q := by
  have hins := insS_at t D a ha h1 h2
  generalize hp : prefB t b = p at *
  cases p with
  | false =>
    have hD : addD b D t = D := by unfold addD; rw [hp]; rfl
    rw [hD] at hQ
    simp only [w_lc6_100, go_sem, reduceIte, Nat.reduceEqDiff, Nat.reduceAdd, Nat.reduceMul, Nat.reduceSub, Int.reduceLE, Int.reduceLT, Int.reduceNe, Int.reduceToNat, Int.reducePow, Int.reduceAdd, Int.reduceMul, reduceCtorEq, true_and, and_true, cond_true, cond_false, List.map_cons, List.map_nil, Option.map_some, Option.map_none, List.getElem?_cons_zero, List.getElem?_cons_succ, ne_eq, not_false_eq_true, List.nil_append, List.append_nil, List.cons_append, List.contains_cons, List.contains_nil, Nat.reduceBEq, Bool.or_false, Bool.false_or, Bool.true_or, Bool.or_true, h39]
    exact hQ _ _ dv (by repeat (first | exact hf | refine H6.set ?_ (by decide))) ho (Keep.refl h)
  | true =>
  have hD : addD b D t = insS t D := by unfold addD; rw [hp]; rfl
  rw [hD] at hQ
  obtain ⟨v1, v2, w1, g1, w2, g2, e1, e2, e3, e4, o5, k5⟩ := insert_text ho ha hl t
  have app : ∀ fr0 : Nat → AV, H6 fr0 av b dv tv N i → fr0 37 = .str t → fr0 38 = .int .i64 (a : Nat) → D[a]? ≠ some t → wCode E0 (aCall E0 sp0 100000 n) m lc6_103 fr0 h Q := by
    intro fr0 hf f37 f38 hne
    rw [if_neg hne] at hins
    rw [← hins] at o5
    simp only [w_lc6_103, go_sem, reduceIte, Nat.reduceEqDiff, Nat.reduceAdd, Nat.reduceMul, Nat.reduceSub, Int.reduceLE, Int.reduceLT, Int.reduceNe, Int.reduceToNat, Int.reducePow, Int.reduceAdd, Int.reduceMul, reduceCtorEq, true_and, and_true, cond_true, cond_false, List.map_cons, List.map_nil, Option.map_some, Option.map_none, List.getElem?_cons_zero, List.getElem?_cons_succ, ne_eq, not_false_eq_true, List.nil_append, List.append_nil, List.cons_append, List.contains_cons, List.contains_nil, Nat.reduceBEq, Bool.or_false, Bool.false_or, Bool.true_or, Bool.or_true, hf.f35, f37, f38, e1, e2, build_text, e3, e4]
    exact hQ _ _ w2 ⟨by simp only [go_sem, reduceIte, Nat.reduceEqDiff, Nat.reduceAdd, Nat.reduceMul, Nat.reduceSub, Int.reduceLE, Int.reduceLT, Int.reduceNe, Int.reduceToNat, Int.reducePow, Int.reduceAdd, Int.reduceMul, reduceCtorEq, true_and, and_true, cond_true, cond_false, List.map_cons, List.map_nil, Option.map_some, Option.map_none, List.getElem?_cons_zero, List.getElem?_cons_succ, ne_eq, not_false_eq_true, List.nil_append, List.append_nil, List.cons_append, List.contains_cons, List.contains_nil, Nat.reduceBEq, Bool.or_false, Bool.false_or, Bool.true_or, Bool.or_true, hf.f9], by simp only [go_sem, reduceIte, Nat.reduceEqDiff, Nat.reduceAdd, Nat.reduceMul, Nat.reduceSub, Int.reduceLE, Int.reduceLT, Int.reduceNe, Int.reduceToNat, Int.reducePow, Int.reduceAdd, Int.reduceMul, reduceCtorEq, true_and, and_true, cond_true, cond_false, List.map_cons, List.map_nil, Option.map_some, Option.map_none, List.getElem?_cons_zero, List.getElem?_cons_succ, ne_eq, not_false_eq_true, List.nil_append, List.append_nil, List.cons_append, List.contains_cons, List.contains_nil, Nat.reduceBEq, Bool.or_false, Bool.false_or, Bool.true_or, Bool.or_true, hf.f34], by simp only [go_sem, reduceIte, Nat.reduceEqDiff, Nat.reduceAdd, Nat.reduceMul, Nat.reduceSub, Int.reduceLE, Int.reduceLT, Int.reduceNe, Int.reduceToNat, Int.reducePow, Int.reduceAdd, Int.reduceMul, reduceCtorEq, true_and, and_true, cond_true, cond_false, List.map_cons, List.map_nil, Option.map_some, Option.map_none, List.getElem?_cons_zero, List.getElem?_cons_succ, ne_eq, not_false_eq_true, List.nil_append, List.append_nil, List.cons_append, List.contains_cons, List.contains_nil, Nat.reduceBEq, Bool.or_false, Bool.false_or, Bool.true_or, Bool.or_true], by simp only [go_sem, reduceIte, Nat.reduceEqDiff, Nat.reduceAdd, Nat.reduceMul, Nat.reduceSub, Int.reduceLE, Int.reduceLT, Int.reduceNe, Int.reduceToNat, Int.reducePow, Int.reduceAdd, Int.reduceMul, reduceCtorEq, true_and, and_true, cond_true, cond_false, List.map_cons, List.map_nil, Option.map_some, Option.map_none, List.getElem?_cons_zero, List.getElem?_cons_succ, ne_eq, not_false_eq_true, List.nil_append, List.append_nil, List.cons_append, List.contains_cons, List.contains_nil, Nat.reduceBEq, Bool.or_false, Bool.false_or, Bool.true_or, Bool.or_true, hf.f298], by simp only [go_sem, reduceIte, Nat.reduceEqDiff, Nat.reduceAdd, Nat.reduceMul, Nat.reduceSub, Int.reduceLE, Int.reduceLT, Int.reduceNe, Int.reduceToNat, Int.reducePow, Int.reduceAdd, Int.reduceMul, reduceCtorEq, true_and, and_true, cond_true, cond_false, List.map_cons, List.map_nil, Option.map_some, Option.map_none, List.getElem?_cons_zero, List.getElem?_cons_succ, ne_eq, not_false_eq_true, List.nil_append, List.append_nil, List.cons_append, List.contains_cons, List.contains_nil, Nat.reduceBEq, Bool.or_false, Bool.false_or, Bool.true_or, Bool.or_true, hf.f299], by simp only [go_sem, reduceIte, Nat.reduceEqDiff, Nat.reduceAdd, Nat.reduceMul, Nat.reduceSub, Int.reduceLE, Int.reduceLT, Int.reduceNe, Int.reduceToNat, Int.reducePow, Int.reduceAdd, Int.reduceMul, reduceCtorEq, true_and, and_true, cond_true, cond_false, List.map_cons, List.map_nil, Option.map_some, Option.map_none, List.getElem?_cons_zero, List.getElem?_cons_succ, ne_eq, not_false_eq_true, List.nil_append, List.append_nil, List.cons_append, List.contains_cons, List.contains_nil, Nat.reduceBEq, Bool.or_false, Bool.false_or, Bool.true_or, Bool.or_true, hf.f300]⟩ o5 k5
  by_cases hc : a = D.length
  · have d1 : ((a : Int) == (D.length : Int)) = true := by simp [hc]
    have hne : D[a]? ≠ some t := by rw [List.getElem?_eq_none (by omega)]; simp
    simp only [w_lc6_100, go_sem, reduceIte, Nat.reduceEqDiff, Nat.reduceAdd, Nat.reduceMul, Nat.reduceSub, Int.reduceLE, Int.reduceLT, Int.reduceNe, Int.reduceToNat, Int.reducePow, Int.reduceAdd, Int.reduceMul, reduceCtorEq, true_and, and_true, cond_true, cond_false, List.map_cons, List.map_nil, Option.map_some, Option.map_none, List.getElem?_cons_zero, List.getElem?_cons_succ, ne_eq, not_false_eq_true, List.nil_append, List.append_nil, List.cons_append, List.contains_cons, List.contains_nil, Nat.reduceBEq, Bool.or_false, Bool.false_or, Bool.true_or, Bool.or_true, h37, h38, h39, hf.f35, len_gen sl48 ho.gs, d1]
    exact app _ (by repeat (first | exact hf | refine H6.set ?_ (by decide))) (by simp only [go_sem, reduceIte, Nat.reduceEqDiff, Nat.reduceAdd, Nat.reduceMul, Nat.reduceSub, Int.reduceLE, Int.reduceLT, Int.reduceNe, Int.reduceToNat, Int.reducePow, Int.reduceAdd, Int.reduceMul, reduceCtorEq, true_and, and_true, cond_true, cond_false, List.map_cons, List.map_nil, Option.map_some, Option.map_none, List.getElem?_cons_zero, List.getElem?_cons_succ, ne_eq, not_false_eq_true, List.nil_append, List.append_nil, List.cons_append, List.contains_cons, List.contains_nil, Nat.reduceBEq, Bool.or_false, Bool.false_or, Bool.true_or, Bool.or_true, h37]) (by simp only [go_sem, reduceIte, Nat.reduceEqDiff, Nat.reduceAdd, Nat.reduceMul, Nat.reduceSub, Int.reduceLE, Int.reduceLT, Int.reduceNe, Int.reduceToNat, Int.reducePow, Int.reduceAdd, Int.reduceMul, reduceCtorEq, true_and, and_true, cond_true, cond_false, List.map_cons, List.map_nil, Option.map_some, Option.map_none, List.getElem?_cons_zero, List.getElem?_cons_succ, ne_eq, not_false_eq_true, List.nil_append, List.append_nil, List.cons_append, List.contains_cons, List.contains_nil, Nat.reduceBEq, Bool.or_false, Bool.false_or, Bool.true_or, Bool.or_true, h38]) hne
  · have d1 : ((a : Int) == (D.length : Int)) = false := beq_false_of_ne (by omega)
    have hx : D[a]? = some (D[a]'(by omega)) := List.getElem?_eq_getElem (by omega)
    generalize D[a]'(by omega) = x at hx
    obtain ⟨p, i1, i2⟩ := index_load sl48 at9 ho.gs (k := .i64) (strs_get hx)
    by_cases hxt : x = t
    · subst hxt
      have d2 : (x == x) = true := by simp
      rw [if_pos hx] at hins
      rw [hins] at hQ
      simp only [w_lc6_100, go_sem, reduceIte, Nat.reduceEqDiff, Nat.reduceAdd, Nat.reduceMul, Nat.reduceSub, Int.reduceLE, Int.reduceLT, Int.reduceNe, Int.reduceToNat, Int.reducePow, Int.reduceAdd, Int.reduceMul, reduceCtorEq, true_and, and_true, cond_true, cond_false, List.map_cons, List.map_nil, Option.map_some, Option.map_none, List.getElem?_cons_zero, List.getElem?_cons_succ, ne_eq, not_false_eq_true, List.nil_append, List.append_nil, List.cons_append, List.contains_cons, List.contains_nil, Nat.reduceBEq, Bool.or_false, Bool.false_or, Bool.true_or, Bool.or_true, h37, h38, h39, hf.f35, len_gen sl48 ho.gs, d1, d2, i1, i2]
      exact hQ _ _ dv (by repeat (first | exact hf | refine H6.set ?_ (by decide))) ho (Keep.refl h)
    · have d2 : (x == t) = false := beq_false_of_ne hxt
      have hne : D[a]? ≠ some t := by rw [hx]; intro e; exact hxt (Option.some.inj e)
      simp only [w_lc6_100, go_sem, reduceIte, Nat.reduceEqDiff, Nat.reduceAdd, Nat.reduceMul, Nat.reduceSub, Int.reduceLE, Int.reduceLT, Int.reduceNe, Int.reduceToNat, Int.reducePow, Int.reduceAdd, Int.reduceMul, reduceCtorEq, true_and, and_true, cond_true, cond_false, List.map_cons, List.map_nil, Option.map_some, Option.map_none, List.getElem?_cons_zero, List.getElem?_cons_succ, ne_eq, not_false_eq_true, List.nil_append, List.append_nil, List.cons_append, List.contains_cons, List.contains_nil, Nat.reduceBEq, Bool.or_false, Bool.false_or, Bool.true_or, Bool.or_true, h37, h38, h39, hf.f35, len_gen sl48 ho.gs, d1, d2, i1, i2]
      exact app _ (by repeat (first | exact hf | refine H6.set ?_ (by decide))) (by simp only [go_sem, reduceIte, Nat.reduceEqDiff, Nat.reduceAdd, Nat.reduceMul, Nat.reduceSub, Int.reduceLE, Int.reduceLT, Int.reduceNe, Int.reduceToNat, Int.reducePow, Int.reduceAdd, Int.reduceMul, reduceCtorEq, true_and, and_true, cond_true, cond_false, List.map_cons, List.map_nil, Option.map_some, Option.map_none, List.getElem?_cons_zero, List.getElem?_cons_succ, ne_eq, not_false_eq_true, List.nil_append, List.append_nil, List.cons_append, List.contains_cons, List.contains_nil, Nat.reduceBEq, Bool.or_false, Bool.false_or, Bool.true_or, Bool.or_true, h37]) (by simp only [go_sem, reduceIte, Nat.reduceEqDiff, Nat.reduceAdd, Nat.reduceMul, Nat.reduceSub, Int.reduceLE, Int.reduceLT, Int.reduceNe, Int.reduceToNat, Int.reducePow, Int.reduceAdd, Int.reduceMul, reduceCtorEq, true_and, and_true, cond_true, cond_false, List.map_cons, List.map_nil, Option.map_some, Option.map_none, List.getElem?_cons_zero, List.getElem?_cons_succ, ne_eq, not_false_eq_true, List.nil_append, List.append_nil, List.cons_append, List.contains_cons, List.contains_nil, Nat.reduceBEq, Bool.or_false, Bool.false_or, Bool.true_or, Bool.or_true, h38]) hne

theorem addD_len (b : List UInt8) (D : List (List UInt8)) (t : List UInt8) : (addD b D t).length ≤ D.length + 1 := by
  have key : ∀ (l : List (List UInt8)), (insS t l).length ≤ l.length + 1 := by
    intro l
    induction l with
    | nil => simp [insS]
    | cons y r ih =>
      unfold insS
      split
      · simp; omega
      · split <;> simp
  unfold addD
  split
  · exact key D
  · omega
theorem dueK_next {b : List UInt8} {ts : List (List UInt8)} {i : Nat} {t : List UInt8} (h : ts[i]? = some t) : dueK b (ts.take (i + 1)) = addD b (dueK b (ts.take i)) t := by
  rw [take_succ_of h, dueK, List.foldl_append]; rfl
theorem foldD_len (b : List UInt8) : ∀ (ts l : List (List UInt8)), (ts.foldl (addD b) l).length ≤ l.length + ts.length
  | [], l => by simp
  | t :: r, l => by
      have := foldD_len b r (addD b l t)
      have := addD_len b l t
      simp only [List.foldl_cons, List.length_cons]
      omega
theorem dueK_len (b : List UInt8) (ts : List (List UInt8)) : (dueK b ts).length ≤ ts.length := by
  have := foldD_len b ts []
  simpa [dueK] using this
@[go_sem] theorem min_3 (a : Nat) : (if (3 : Int) < (a : Int) then (3 : Int) else (a : Int)) = ((min a 3 : Nat) : Int) := min_nat a 3

theorem topKF {n m : Nat} (hm : 9223372036854775808 ≤ m) {h : AH} {fr : Nat → AV} {pv tv av : AV} {other b0 : List UInt8} (hf : G6 fr pv other tv av) (hb0 : BS h pv b0) {ts : List (List UInt8)} (hts : GS 1 h tv ts.length (strs ts)) (hl : ts.length ≤ 12) (ht6 : ∀ t ∈ ts, t.length ≤ 6)
    {Q : CR → Prop} (hQ : ∀ fr' h' dv, fr' 9 = av → fr' 34 = .str (b0.take 3) → fr' 35 = dv → GS 1 h' dv (dueK (b0.take 3) ts).length (strs (dueK (b0.take 3) ts)) → Keep h h' [] → wCode E0 (aCall E0 sp0 100000 n) m lc6_105 fr' h' Q) :
    wCode E0 (aCall E0 sp0 100000 n) m lc6_88 fr h Q := by
  obtain ⟨v8, e8, hv8, _⟩ := slice_first hb0 (k := min b0.length 3) (by omega)
  rw [take_min] at hv8
  have hbl : (b0.take 3).length ≤ 3 := List.length_take_le 3 b0
  generalize b0.take 3 = b at *
  simp only [w_lc6_88, w_lc6_90, go_sem, reduceIte, Nat.reduceEqDiff, Nat.reduceAdd, Nat.reduceMul, Nat.reduceSub, Int.reduceLE, Int.reduceLT, Int.reduceNe, Int.reduceToNat, Int.reducePow, Int.reduceAdd, Int.reduceMul, reduceCtorEq, true_and, and_true, cond_true, cond_false, List.map_cons, List.map_nil, Option.map_some, Option.map_none, List.getElem?_cons_zero, List.getElem?_cons_succ, ne_eq, not_false_eq_true, List.nil_append, List.append_nil, List.cons_append, List.contains_cons, List.contains_nil, Nat.reduceBEq, Bool.or_false, Bool.false_or, Bool.true_or, Bool.or_true, hf.f1, hf.f8, len_bytes byte24 hb0, e8, conv_bytes byte24 str9 hv8, len_gen sl48 hts]
  refine wLoop_inv (fun k fr h1 => ∃ i dv, k = ts.length - i ∧ i ≤ ts.length ∧ H6 fr av b dv tv ts.length i ∧ OwnA 9 1 h1 dv (dueK b (ts.take i)).length (strs (dueK b (ts.take i))) ∧ Keep h h1 []) ?_ m ts.length _ _ (by omega)
    ⟨0, .nils, rfl, by omega, ⟨by simp only [go_sem, reduceIte, Nat.reduceEqDiff, Nat.reduceAdd, Nat.reduceMul, Nat.reduceSub, Int.reduceLE, Int.reduceLT, Int.reduceNe, Int.reduceToNat, Int.reducePow, Int.reduceAdd, Int.reduceMul, reduceCtorEq, true_and, and_true, cond_true, cond_false, List.map_cons, List.map_nil, Option.map_some, Option.map_none, List.getElem?_cons_zero, List.getElem?_cons_succ, ne_eq, not_false_eq_true, List.nil_append, List.append_nil, List.cons_append, List.contains_cons, List.contains_nil, Nat.reduceBEq, Bool.or_false, Bool.false_or, Bool.true_or, Bool.or_true, hf.f9], by simp only [go_sem, reduceIte, Nat.reduceEqDiff, Nat.reduceAdd, Nat.reduceMul, Nat.reduceSub, Int.reduceLE, Int.reduceLT, Int.reduceNe, Int.reduceToNat, Int.reducePow, Int.reduceAdd, Int.reduceMul, reduceCtorEq, true_and, and_true, cond_true, cond_false, List.map_cons, List.map_nil, Option.map_some, Option.map_none, List.getElem?_cons_zero, List.getElem?_cons_succ, ne_eq, not_false_eq_true, List.nil_append, List.append_nil, List.cons_append, List.contains_cons, List.contains_nil, Nat.reduceBEq, Bool.or_false, Bool.false_or, Bool.true_or, Bool.or_true], by simp only [go_sem, reduceIte, Nat.reduceEqDiff, Nat.reduceAdd, Nat.reduceMul, Nat.reduceSub, Int.reduceLE, Int.reduceLT, Int.reduceNe, Int.reduceToNat, Int.reducePow, Int.reduceAdd, Int.reduceMul, reduceCtorEq, true_and, and_true, cond_true, cond_false, List.map_cons, List.map_nil, Option.map_some, Option.map_none, List.getElem?_cons_zero, List.getElem?_cons_succ, ne_eq, not_false_eq_true, List.nil_append, List.append_nil, List.cons_append, List.contains_cons, List.contains_nil, Nat.reduceBEq, Bool.or_false, Bool.false_or, Bool.true_or, Bool.or_true], by simp only [go_sem, reduceIte, Nat.reduceEqDiff, Nat.reduceAdd, Nat.reduceMul, Nat.reduceSub, Int.reduceLE, Int.reduceLT, Int.reduceNe, Int.reduceToNat, Int.reducePow, Int.reduceAdd, Int.reduceMul, reduceCtorEq, true_and, and_true, cond_true, cond_false, List.map_cons, List.map_nil, Option.map_some, Option.map_none, List.getElem?_cons_zero, List.getElem?_cons_succ, ne_eq, not_false_eq_true, List.nil_append, List.append_nil, List.cons_append, List.contains_cons, List.contains_nil, Nat.reduceBEq, Bool.or_false, Bool.false_or, Bool.true_or, Bool.or_true], by simp only [go_sem, reduceIte, Nat.reduceEqDiff, Nat.reduceAdd, Nat.reduceMul, Nat.reduceSub, Int.reduceLE, Int.reduceLT, Int.reduceNe, Int.reduceToNat, Int.reducePow, Int.reduceAdd, Int.reduceMul, reduceCtorEq, true_and, and_true, cond_true, cond_false, List.map_cons, List.map_nil, Option.map_some, Option.map_none, List.getElem?_cons_zero, List.getElem?_cons_succ, ne_eq, not_false_eq_true, List.nil_append, List.append_nil, List.cons_append, List.contains_cons, List.contains_nil, Nat.reduceBEq, Bool.or_false, Bool.false_or, Bool.true_or, Bool.or_true], by simp only [go_sem, reduceIte, Nat.reduceEqDiff, Nat.reduceAdd, Nat.reduceMul, Nat.reduceSub, Int.reduceLE, Int.reduceLT, Int.reduceNe, Int.reduceToNat, Int.reducePow, Int.reduceAdd, Int.reduceMul, reduceCtorEq, true_and, and_true, cond_true, cond_false, List.map_cons, List.map_nil, Option.map_some, Option.map_none, List.getElem?_cons_zero, List.getElem?_cons_succ, ne_eq, not_false_eq_true, List.nil_append, List.append_nil, List.cons_append, List.contains_cons, List.contains_nil, Nat.reduceBEq, Bool.or_false, Bool.false_or, Bool.true_or, Bool.or_true]; rfl⟩, OwnA.nil, Keep.refl h⟩
  rintro k fr h1 ⟨i, dv, rfl, hi, hf, ho, hk⟩
  simp only [go_sem, reduceIte, Nat.reduceEqDiff, Nat.reduceAdd, Nat.reduceMul, Nat.reduceSub, Int.reduceLE, Int.reduceLT, Int.reduceNe, Int.reduceToNat, Int.reducePow, Int.reduceAdd, Int.reduceMul, reduceCtorEq, true_and, and_true, cond_true, cond_false, List.map_cons, List.map_nil, Option.map_some, Option.map_none, List.getElem?_cons_zero, List.getElem?_cons_succ, ne_eq, not_false_eq_true, List.nil_append, List.append_nil, List.cons_append, List.contains_cons, List.contains_nil, Nat.reduceBEq, Bool.or_false, Bool.false_or, Bool.true_or, Bool.or_true, hf.f298, hf.f299, hf.f300]
  refine condK_intro (fun hc => ?_) (fun hc => ?_)
  case refine_2 =>
    have hc : i = ts.length := by have := of_decide_eq_false hc; omega
    subst hc
    rw [List.take_length] at ho
    simp only [go_sem, reduceIte, Nat.reduceEqDiff, Nat.reduceAdd, Nat.reduceMul, Nat.reduceSub, Int.reduceLE, Int.reduceLT, Int.reduceNe, Int.reduceToNat, Int.reducePow, Int.reduceAdd, Int.reduceMul, reduceCtorEq, true_and, and_true, cond_true, cond_false, List.map_cons, List.map_nil, Option.map_some, Option.map_none, List.getElem?_cons_zero, List.getElem?_cons_succ, ne_eq, not_false_eq_true, List.nil_append, List.append_nil, List.cons_append, List.contains_cons, List.contains_nil, Nat.reduceBEq, Bool.or_false, Bool.false_or, Bool.true_or, Bool.or_true]
    exact hQ _ _ dv (by simp only [go_sem, reduceIte, Nat.reduceEqDiff, Nat.reduceAdd, Nat.reduceMul, Nat.reduceSub, Int.reduceLE, Int.reduceLT, Int.reduceNe, Int.reduceToNat, Int.reducePow, Int.reduceAdd, Int.reduceMul, reduceCtorEq, true_and, and_true, cond_true, cond_false, List.map_cons, List.map_nil, Option.map_some, Option.map_none, List.getElem?_cons_zero, List.getElem?_cons_succ, ne_eq, not_false_eq_true, List.nil_append, List.append_nil, List.cons_append, List.contains_cons, List.contains_nil, Nat.reduceBEq, Bool.or_false, Bool.false_or, Bool.true_or, Bool.or_true, hf.f9]) (by simp only [go_sem, reduceIte, Nat.reduceEqDiff, Nat.reduceAdd, Nat.reduceMul, Nat.reduceSub, Int.reduceLE, Int.reduceLT, Int.reduceNe, Int.reduceToNat, Int.reducePow, Int.reduceAdd, Int.reduceMul, reduceCtorEq, true_and, and_true, cond_true, cond_false, List.map_cons, List.map_nil, Option.map_some, Option.map_none, List.getElem?_cons_zero, List.getElem?_cons_succ, ne_eq, not_false_eq_true, List.nil_append, List.append_nil, List.cons_append, List.contains_cons, List.contains_nil, Nat.reduceBEq, Bool.or_false, Bool.false_or, Bool.true_or, Bool.or_true, hf.f34]) (by simp only [go_sem, reduceIte, Nat.reduceEqDiff, Nat.reduceAdd, Nat.reduceMul, Nat.reduceSub, Int.reduceLE, Int.reduceLT, Int.reduceNe, Int.reduceToNat, Int.reducePow, Int.reduceAdd, Int.reduceMul, reduceCtorEq, true_and, and_true, cond_true, cond_false, List.map_cons, List.map_nil, Option.map_some, Option.map_none, List.getElem?_cons_zero, List.getElem?_cons_succ, ne_eq, not_false_eq_true, List.nil_append, List.append_nil, List.cons_append, List.contains_cons, List.contains_nil, Nat.reduceBEq, Bool.or_false, Bool.false_or, Bool.true_or, Bool.or_true, hf.f35]) ho.gs hk
  case refine_1 =>
    have hc : i < ts.length := by have := of_decide_eq_true hc; omega
    have hx : ts[i]? = some ts[i] := List.getElem?_eq_getElem hc
    have hx6 := ht6 _ (List.getElem_mem hc)
    generalize ts[i] = t at hx hx6
    obtain ⟨p, i1, i2⟩ := index_load sl48 at9 (hts.keep hk (by simp)) (k := .i64) (strs_get hx)
    have hnx := dueK_next (b := b) hx
    have hdl := dueK_len b (ts.take i)
    have htl : (ts.take i).length ≤ 12 := by rw [List.length_take]; omega
    simp only [go_sem, reduceIte, Nat.reduceEqDiff, Nat.reduceAdd, Nat.reduceMul, Nat.reduceSub, Int.reduceLE, Int.reduceLT, Int.reduceNe, Int.reduceToNat, Int.reducePow, Int.reduceAdd, Int.reduceMul, reduceCtorEq, true_and, and_true, cond_true, cond_false, List.map_cons, List.map_nil, Option.map_some, Option.map_none, List.getElem?_cons_zero, List.getElem?_cons_succ, ne_eq, not_false_eq_true, List.nil_append, List.append_nil, List.cons_append, List.contains_cons, List.contains_nil, Nat.reduceBEq, Bool.or_false, Bool.false_or, Bool.true_or, Bool.or_true, hf.f298, hf.f299, hf.f300, i1, i2]
    refine dueA hm (show H6 _ av b dv tv ts.length i from by repeat (first | exact hf | refine H6.set ?_ (by decide))) (by simp only [go_sem, reduceIte, Nat.reduceEqDiff, Nat.reduceAdd, Nat.reduceMul, Nat.reduceSub, Int.reduceLE, Int.reduceLT, Int.reduceNe, Int.reduceToNat, Int.reducePow, Int.reduceAdd, Int.reduceMul, reduceCtorEq, true_and, and_true, cond_true, cond_false, List.map_cons, List.map_nil, Option.map_some, Option.map_none, List.getElem?_cons_zero, List.getElem?_cons_succ, ne_eq, not_false_eq_true, List.nil_append, List.append_nil, List.cons_append, List.contains_cons, List.contains_nil, Nat.reduceBEq, Bool.or_false, Bool.false_or, Bool.true_or, Bool.or_true]) hbl hx6 ho (by omega) fun fr2 a hf2 a37 a38 a39 ha p1 p2 => ?_
    refine dueB hf2 a37 a38 a39 ho (by omega) ha p1 p2 fun fr3 h3 dv3 hf3 o3 k3 => ?_
    simp only [go_sem, reduceIte, Nat.reduceEqDiff, Nat.reduceAdd, Nat.reduceMul, Nat.reduceSub, Int.reduceLE, Int.reduceLT, Int.reduceNe, Int.reduceToNat, Int.reducePow, Int.reduceAdd, Int.reduceMul, reduceCtorEq, true_and, and_true, cond_true, cond_false, List.map_cons, List.map_nil, Option.map_some, Option.map_none, List.getElem?_cons_zero, List.getElem?_cons_succ, ne_eq, not_false_eq_true, List.nil_append, List.append_nil, List.cons_append, List.contains_cons, List.contains_nil, Nat.reduceBEq, Bool.or_false, Bool.false_or, Bool.true_or, Bool.or_true, hf3.f300, w_inc (show i ≤ 1000000000 by omega)]
    refine ⟨ts.length - (i + 1), by omega, i + 1, dv3, rfl, by omega, ⟨by simp only [go_sem, reduceIte, Nat.reduceEqDiff, Nat.reduceAdd, Nat.reduceMul, Nat.reduceSub, Int.reduceLE, Int.reduceLT, Int.reduceNe, Int.reduceToNat, Int.reducePow, Int.reduceAdd, Int.reduceMul, reduceCtorEq, true_and, and_true, cond_true, cond_false, List.map_cons, List.map_nil, Option.map_some, Option.map_none, List.getElem?_cons_zero, List.getElem?_cons_succ, ne_eq, not_false_eq_true, List.nil_append, List.append_nil, List.cons_append, List.contains_cons, List.contains_nil, Nat.reduceBEq, Bool.or_false, Bool.false_or, Bool.true_or, Bool.or_true, hf3.f9], by simp only [go_sem, reduceIte, Nat.reduceEqDiff, Nat.reduceAdd, Nat.reduceMul, Nat.reduceSub, Int.reduceLE, Int.reduceLT, Int.reduceNe, Int.reduceToNat, Int.reducePow, Int.reduceAdd, Int.reduceMul, reduceCtorEq, true_and, and_true, cond_true, cond_false, List.map_cons, List.map_nil, Option.map_some, Option.map_none, List.getElem?_cons_zero, List.getElem?_cons_succ, ne_eq, not_false_eq_true, List.nil_append, List.append_nil, List.cons_append, List.contains_cons, List.contains_nil, Nat.reduceBEq, Bool.or_false, Bool.false_or, Bool.true_or, Bool.or_true, hf3.f34], by simp only [go_sem, reduceIte, Nat.reduceEqDiff, Nat.reduceAdd, Nat.reduceMul, Nat.reduceSub, Int.reduceLE, Int.reduceLT, Int.reduceNe, Int.reduceToNat, Int.reducePow, Int.reduceAdd, Int.reduceMul, reduceCtorEq, true_and, and_true, cond_true, cond_false, List.map_cons, List.map_nil, Option.map_some, Option.map_none, List.getElem?_cons_zero, List.getElem?_cons_succ, ne_eq, not_false_eq_true, List.nil_append, List.append_nil, List.cons_append, List.contains_cons, List.contains_nil, Nat.reduceBEq, Bool.or_false, Bool.false_or, Bool.true_or, Bool.or_true, hf3.f35], by simp only [go_sem, reduceIte, Nat.reduceEqDiff, Nat.reduceAdd, Nat.reduceMul, Nat.reduceSub, Int.reduceLE, Int.reduceLT, Int.reduceNe, Int.reduceToNat, Int.reducePow, Int.reduceAdd, Int.reduceMul, reduceCtorEq, true_and, and_true, cond_true, cond_false, List.map_cons, List.map_nil, Option.map_some, Option.map_none, List.getElem?_cons_zero, List.getElem?_cons_succ, ne_eq, not_false_eq_true, List.nil_append, List.append_nil, List.cons_append, List.contains_cons, List.contains_nil, Nat.reduceBEq, Bool.or_false, Bool.false_or, Bool.true_or, Bool.or_true, hf3.f298], by simp only [go_sem, reduceIte, Nat.reduceEqDiff, Nat.reduceAdd, Nat.reduceMul, Nat.reduceSub, Int.reduceLE, Int.reduceLT, Int.reduceNe, Int.reduceToNat, Int.reducePow, Int.reduceAdd, Int.reduceMul, reduceCtorEq, true_and, and_true, cond_true, cond_false, List.map_cons, List.map_nil, Option.map_some, Option.map_none, List.getElem?_cons_zero, List.getElem?_cons_succ, ne_eq, not_false_eq_true, List.nil_append, List.append_nil, List.cons_append, List.contains_cons, List.contains_nil, Nat.reduceBEq, Bool.or_false, Bool.false_or, Bool.true_or, Bool.or_true, hf3.f299], by simp only [go_sem, reduceIte, Nat.reduceEqDiff, Nat.reduceAdd, Nat.reduceMul, Nat.reduceSub, Int.reduceLE, Int.reduceLT, Int.reduceNe, Int.reduceToNat, Int.reducePow, Int.reduceAdd, Int.reduceMul, reduceCtorEq, true_and, and_true, cond_true, cond_false, List.map_cons, List.map_nil, Option.map_some, Option.map_none, List.getElem?_cons_zero, List.getElem?_cons_succ, ne_eq, not_false_eq_true, List.nil_append, List.append_nil, List.cons_append, List.contains_cons, List.contains_nil, Nat.reduceBEq, Bool.or_false, Bool.false_or, Bool.true_or, Bool.or_true]⟩, by rw [hnx]; exact o3, (hk.trans k3).mono (by simp)⟩
end Go.Proofs.Yteblojfcalgoeaa

/- Seat 1: TopKeyed: what Under told is what is due; the whole. Conditions: none. -/
set_option linter.unusedVariables false
set_option linter.unusedSimpArgs false
namespace Go.Proofs.Yteblojfcalgoeaa
open Go Go.RowKit
set_option maxRecDepth 100000

theorem fs61 : (E0.fn 61).isSome = true := by kernel_rfl
theorem fs37 : (E0.fn 37).isSome = true := by kernel_rfl

theorem topKG {n m : Nat} (hn : 10 ≤ n) (hm : 9223372036854775808 ≤ m) {h : AH} {fr : Nat → AV} {av dv : AV} {b : List UInt8} {al D : List (List UInt8)} (f9 : fr 9 = av) (f34 : fr 34 = .str b) (f35 : fr 35 = dv)
    (ha : GS 1 h av al.length (strs al)) (hal : al.length ≤ 1000) (hs : ∀ s ∈ al, s.length ≤ 9223372036854775807) (hd : GS 1 h dv D.length (strs D)) (hdl : D.length ≤ 1000) (heq : sortB (underK b al) = D) :
    wCode E0 (aCall E0 sp0 100000 n) m lc6_105 fr h (BodyQ E0 Try.f6 fun o => ∃ h', o = .ret (.bool true) h') := by
  obtain ⟨_, c1, v, h1, rfl, g1, k1⟩ := under_con b ha hal hs n (by omega)
  have hlen : (underK b al).length = D.length := by rw [← heq, sortB_len]
  rw [hlen, heq] at g1
  have d0 : ((D.length : Int) == (D.length : Int)) = true := by simp
  have hd1 := hd.keep k1 (by simp)
  simp only [w_lc6_105, w_lc6_109, go_sem, reduceIte, Nat.reduceEqDiff, Nat.reduceAdd, Nat.reduceMul, Nat.reduceSub, Int.reduceLE, Int.reduceLT, Int.reduceNe, Int.reduceToNat, Int.reducePow, Int.reduceAdd, Int.reduceMul, reduceCtorEq, true_and, and_true, cond_true, cond_false, List.map_cons, List.map_nil, Option.map_some, Option.map_none, List.getElem?_cons_zero, List.getElem?_cons_succ, ne_eq, not_false_eq_true, List.nil_append, List.append_nil, List.cons_append, List.contains_cons, List.contains_nil, Nat.reduceBEq, Bool.or_false, Bool.false_or, Bool.true_or, Bool.or_true, f9, f34, f35, st_callf fs61, c1, len_gen sl48 g1, len_gen sl48 hd1, d0]
  refine wLoop_inv (fun k fr h2 => ∃ j, k = D.length - j ∧ j ≤ D.length ∧ h2 = h1 ∧ fr 35 = dv ∧ fr 40 = v ∧ fr 371 = .int .i64 (D.length : Nat) ∧ fr 372 = .int .i64 (j : Nat)) ?_ m D.length _ _ (by omega)
    ⟨0, rfl, by omega, rfl, by simp only [go_sem, reduceIte, Nat.reduceEqDiff, Nat.reduceAdd, Nat.reduceMul, Nat.reduceSub, Int.reduceLE, Int.reduceLT, Int.reduceNe, Int.reduceToNat, Int.reducePow, Int.reduceAdd, Int.reduceMul, reduceCtorEq, true_and, and_true, cond_true, cond_false, List.map_cons, List.map_nil, Option.map_some, Option.map_none, List.getElem?_cons_zero, List.getElem?_cons_succ, ne_eq, not_false_eq_true, List.nil_append, List.append_nil, List.cons_append, List.contains_cons, List.contains_nil, Nat.reduceBEq, Bool.or_false, Bool.false_or, Bool.true_or, Bool.or_true, f35], by simp only [go_sem, reduceIte, Nat.reduceEqDiff, Nat.reduceAdd, Nat.reduceMul, Nat.reduceSub, Int.reduceLE, Int.reduceLT, Int.reduceNe, Int.reduceToNat, Int.reducePow, Int.reduceAdd, Int.reduceMul, reduceCtorEq, true_and, and_true, cond_true, cond_false, List.map_cons, List.map_nil, Option.map_some, Option.map_none, List.getElem?_cons_zero, List.getElem?_cons_succ, ne_eq, not_false_eq_true, List.nil_append, List.append_nil, List.cons_append, List.contains_cons, List.contains_nil, Nat.reduceBEq, Bool.or_false, Bool.false_or, Bool.true_or, Bool.or_true], by simp only [go_sem, reduceIte, Nat.reduceEqDiff, Nat.reduceAdd, Nat.reduceMul, Nat.reduceSub, Int.reduceLE, Int.reduceLT, Int.reduceNe, Int.reduceToNat, Int.reducePow, Int.reduceAdd, Int.reduceMul, reduceCtorEq, true_and, and_true, cond_true, cond_false, List.map_cons, List.map_nil, Option.map_some, Option.map_none, List.getElem?_cons_zero, List.getElem?_cons_succ, ne_eq, not_false_eq_true, List.nil_append, List.append_nil, List.cons_append, List.contains_cons, List.contains_nil, Nat.reduceBEq, Bool.or_false, Bool.false_or, Bool.true_or, Bool.or_true], by simp only [go_sem, reduceIte, Nat.reduceEqDiff, Nat.reduceAdd, Nat.reduceMul, Nat.reduceSub, Int.reduceLE, Int.reduceLT, Int.reduceNe, Int.reduceToNat, Int.reducePow, Int.reduceAdd, Int.reduceMul, reduceCtorEq, true_and, and_true, cond_true, cond_false, List.map_cons, List.map_nil, Option.map_some, Option.map_none, List.getElem?_cons_zero, List.getElem?_cons_succ, ne_eq, not_false_eq_true, List.nil_append, List.append_nil, List.cons_append, List.contains_cons, List.contains_nil, Nat.reduceBEq, Bool.or_false, Bool.false_or, Bool.true_or, Bool.or_true]; rfl⟩
  rintro k fr hh ⟨j, rfl, hj, rfl, f35, f40, f371, f372⟩
  simp only [go_sem, reduceIte, Nat.reduceEqDiff, Nat.reduceAdd, Nat.reduceMul, Nat.reduceSub, Int.reduceLE, Int.reduceLT, Int.reduceNe, Int.reduceToNat, Int.reducePow, Int.reduceAdd, Int.reduceMul, reduceCtorEq, true_and, and_true, cond_true, cond_false, List.map_cons, List.map_nil, Option.map_some, Option.map_none, List.getElem?_cons_zero, List.getElem?_cons_succ, ne_eq, not_false_eq_true, List.nil_append, List.append_nil, List.cons_append, List.contains_cons, List.contains_nil, Nat.reduceBEq, Bool.or_false, Bool.false_or, Bool.true_or, Bool.or_true, f371, f372]
  refine condK_intro (fun hc => ?_) (fun hc => ?_)
  case refine_2 =>
    obtain ⟨n, rfl⟩ : ∃ k, n = k + 1 := ⟨n - 1, by omega⟩
    simp only [go_sem, reduceIte, Nat.reduceEqDiff, Nat.reduceAdd, Nat.reduceMul, Nat.reduceSub, Int.reduceLE, Int.reduceLT, Int.reduceNe, Int.reduceToNat, Int.reducePow, Int.reduceAdd, Int.reduceMul, reduceCtorEq, true_and, and_true, cond_true, cond_false, List.map_cons, List.map_nil, Option.map_some, Option.map_none, List.getElem?_cons_zero, List.getElem?_cons_succ, ne_eq, not_false_eq_true, List.nil_append, List.append_nil, List.cons_append, List.contains_cons, List.contains_nil, Nat.reduceBEq, Bool.or_false, Bool.false_or, Bool.true_or, Bool.or_true, st_callf fs37, alive_a]
    exact ⟨_, rfl⟩
  case refine_1 =>
    have hc : j < D.length := by have := of_decide_eq_true hc; omega
    have hx : D[j]? = some D[j] := List.getElem?_eq_getElem hc
    generalize D[j] = x at hx
    obtain ⟨p, i1, i2⟩ := index_load sl48 at9 g1 (k := .i64) (strs_get hx)
    obtain ⟨q, i3, i4⟩ := index_load sl48 at9 hd1 (k := .i64) (strs_get hx)
    have d1 : (x == x) = true := by simp
    simp only [go_sem, reduceIte, Nat.reduceEqDiff, Nat.reduceAdd, Nat.reduceMul, Nat.reduceSub, Int.reduceLE, Int.reduceLT, Int.reduceNe, Int.reduceToNat, Int.reducePow, Int.reduceAdd, Int.reduceMul, reduceCtorEq, true_and, and_true, cond_true, cond_false, List.map_cons, List.map_nil, Option.map_some, Option.map_none, List.getElem?_cons_zero, List.getElem?_cons_succ, ne_eq, not_false_eq_true, List.nil_append, List.append_nil, List.cons_append, List.contains_cons, List.contains_nil, Nat.reduceBEq, Bool.or_false, Bool.false_or, Bool.true_or, Bool.or_true, f35, f40, f371, f372, i1, i2, i3, i4, d1, w_inc (show j ≤ 1000000000 by omega)]
    exact ⟨D.length - (j + 1), by omega, j + 1, rfl, by omega, rfl⟩

theorem topK_body {n m : Nat} (hn : 10 ≤ n) (hm : 9223372036854775808 ≤ m) {h : AH} {kv pv : AV} {other b0 : List UInt8} {ks : List (List UInt8)} (hks : KeyS h kv ks) (hb : BS h pv b0) (ho : other.length ≤ 9223372036854775807) :
    wCode E0 (aCall E0 sp0 100000 n) m lc6 (frame0 [kv, pv, .str other]) h (BodyQ E0 Try.f6 fun o => ∃ h', o = .ret (.bool true) h') := by
  have hok := tK_ok (ks.take 12)
  have htl : (tK (ks.take 12)).length ≤ 12 := Nat.le_trans (tK_len _) (List.length_take_le 12 ks)
  refine topKA hn hm hks fun fr1 h1 tv av a1 a2 a8 a9 hT => ?_
  obtain ⟨nv, t1⟩ := hT
  generalize tK (ks.take 12) = ts at *
  have hal := allK_len ts
  refine topKB hn hm (⟨a1, a2, a8, a9⟩ : G6 fr1 pv other tv av) fun fr2 h2 g2 k2 => ?_
  have t2 := t1.same k2
  refine topKC hm ho g2 fun fr3 g3 f30 f31 => ?_
  refine topKD g3 f30 f31 fun fr4 g4 f30 f31 => ?_
  refine topKE hn ho g4 f30 f31 t2 (by omega) fun fr5 h5 av5 g5 t5 => ?_
  refine topKF hm g5 (hb.keep t5.keep (by simp)) t5.ob.gs htl (fun t ht => (hok t ht).2) fun fr6 h6 dv f9 f34 f35 hd k6 => ?_
  have hx : (allK ts ++ if rightB other = true then [] else [other]).length ≤ 37 := by
    rw [List.length_append]
    split <;> simp <;> omega
  have hdl := dueK_len (b0.take 3) ts
  refine topKG hn hm f9 f34 f35 (t5.oc.gs.keep k6 (by simp)) (by omega) (fun s hs => ?_) hd (by omega) (due_is _ _ _ fun t ht => (hok t ht).1)
  rcases List.mem_append.1 hs with hs | hs
  · obtain ⟨k, hk1, hk2⟩ := List.mem_flatMap.1 hs
    have := (hok k hk1).2
    have := name_len k
    simp only [List.mem_cons, List.not_mem_nil, or_false] at hk2
    rcases hk2 with rfl | rfl | rfl
    · omega
    · simp
    · omega
  · split at hs
    · simp at hs
    · simp at hs; subst hs; exact ho

/-- TopKeyed, as a function of its own: its loop over the text may be long. -/
noncomputable def keyedSp : Spec := fun _ args h => aBody E0 (aCall E0 sp0 100000 60) 9223372036854775808 Try.f6 args h
theorem f6_fn : E0.fn 6 = some Try.f6 := by kernel_rfl
theorem keyedSp_ok : SpecAt Try.prog E0.size 6 keyedSp := by
  intro K _ args h out he
  exact body_sound ok0 (call_sound ok0 sp0_ok 60) f6_fn he
noncomputable def sp6 : FuncId → Option Spec := fun f => bif Nat.beq f 6 then some keyedSp else sp0 f
theorem sp6_ok : ∀ f s, sp6 f = some s → SpecAt Try.prog E0.size f s := fun f s h => by
  unfold sp6 at h
  cases hb : Nat.beq f 6 with
  | true =>
    rw [hb] at h
    cases h
    have := Nat.eq_of_beq_eq_true hb
    subst this
    exact keyedSp_ok
  | false =>
    rw [hb] at h
    exact sp0_ok f s h
theorem topKeyed_con {h : AH} {kv pv : AV} {other b0 : List UInt8} {ks : List (List UInt8)} (hks : KeyS h kv ks) (hb : BS h pv b0) (ho : other.length ≤ 9223372036854775807) :
    Con E0 sp6 100000 1 6 [kv, pv, .str other] h fun o => ∃ h', o = .ret (.bool true) h' := by
  intro n hn
  obtain ⟨k, rfl⟩ : ∃ k, n = k + 1 := ⟨n - 1, by omega⟩
  obtain ⟨out, e, ho⟩ := wBody_sound (body6 (m := 9223372036854775808) (topK_body (n := 60) (by omega) (Nat.le_refl _) hks hb ho))
  exact ⟨out, e, ho⟩
end Go.Proofs.Yteblojfcalgoeaa
