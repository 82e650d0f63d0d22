/- Parts of the abstract machine and of its laws, joined. Conditions: none. -/
import Derived.Test.YteblojfcalgoeaaQK
set_option linter.unusedVariables false
set_option linter.unusedSimpArgs false
/- Seat 1: TopKeyed: a key's name by hand; what naming says of it. Conditions: none. -/
set_option linter.unusedVariables false
set_option linter.unusedSimpArgs false
namespace Go.Proofs.Yteblojfcalgoeaa
open Go Go.RowKit
set_option maxRecDepth 100000

/-- What stays through a round of the keys. -/
structure F6 (fr : Nat → AV) (pv : AV) (other : List UInt8) (nv tv av kv : AV) (N i : Nat) : Prop where
  f1 : fr 1 = pv
  f2 : fr 2 = .str other
  f7 : fr 7 = nv
  f8 : fr 8 = tv
  f9 : fr 9 = av
  f46 : fr 46 = kv
  f47 : fr 47 = .int .i64 (N : Nat)
  f48 : fr 48 = .int .i64 (i : Nat)

theorem F6.set {fr : Nat → AV} {pv : AV} {other : List UInt8} {nv tv av kv : AV} {N i : Nat} (hf : F6 fr pv other nv tv av kv N i) {t : Nat} {v : AV} (ht : t ≠ 1 ∧ t ≠ 2 ∧ t ≠ 7 ∧ t ≠ 8 ∧ t ≠ 9 ∧ t ≠ 46 ∧ t ≠ 47 ∧ t ≠ 48) : F6 (setF fr (some t) v) pv other nv tv av kv N i := by
  obtain ⟨t1, t2, t7, t8, t9, t46, t47, t48⟩ := ht
  have g : ∀ u, t ≠ u → setF fr (some t) v u = fr u := fun u hu => by rw [setF_some, if_neg (Ne.symm hu)]
  exact ⟨(g 1 t1).trans hf.f1, (g 2 t2).trans hf.f2, (g 7 t7).trans hf.f7, (g 8 t8).trans hf.f8, (g 9 t9).trans hf.f9, (g 46 t46).trans hf.f46, (g 47 t47).trans hf.f47, (g 48 t48).trans hf.f48⟩
theorem hexdig {x : Nat} (hx : x < 16) : aSlice E0 9 (.str [48, 49, 50, 51, 52, 53, 54, 55, 56, 57, 97, 98, 99, 100, 101, 102]) (some (.int .u8 (x : Nat))) (some (.int .u8 ((x + 1 : Nat) : Int))) none = some (.str [UInt8.ofNat (digitN x)]) := by
  have e := slice_str (E := E0) (t := 9) (s := [48, 49, 50, 51, 52, 53, 54, 55, 56, 57, 97, 98, 99, 100, 101, 102]) (lo := some (.int .u8 (x : Nat))) (hi := some (.int .u8 ((x + 1 : Nat) : Int))) (a := x) (b := x + 1) str9 (.inr ⟨_, rfl⟩) (.inr ⟨_, rfl⟩) (by omega) (by simp; omega)
  rw [e]
  have key : ∀ x, x < 16 → (([48, 49, 50, 51, 52, 53, 54, 55, 56, 57, 97, 98, 99, 100, 101, 102] : List UInt8).drop x).take (x + 1 - x) = [UInt8.ofNat (digitN x)] := by decide
  rw [key x hx]
theorem w_u8_inc {x : Nat} (h : x < 255) : IntKind.u8.wrap ((x : Int) + 1) = ((x + 1 : Nat) : Int) := by
  rw [← w_u8_in (x + 1) (by omega)]; norm_cast
@[go_sem] theorem min_6 (a : Nat) : (if (6 : Int) < (a : Int) then (6 : Int) else (a : Int)) = ((min a 6 : Nat) : Int) := min_nat a 6

theorem keyA {n m : Nat} (hm : 9223372036854775808 ≤ m) {h : AH} {fr : Nat → AV} {pv nv tv av kv bv : AV} {other b0 : List UInt8} {N i : Nat} (hf : F6 fr pv other nv tv av kv N i) (h11 : fr 11 = bv) (hb : BS h bv b0)
    {Q : CR → Prop} (hQ : ∀ fr', F6 fr' pv other nv tv av kv N i → fr' 12 = .str (b0.take 6) → fr' 13 = .str (nameB (b0.take 6)) → wCode E0 (aCall E0 sp0 100000 n) m lc6_17 fr' h Q) :
    wCode E0 (aCall E0 sp0 100000 n) m lc6_8 fr h Q := by
  obtain ⟨v8, e8, hv8, _⟩ := slice_first hb (k := min b0.length 6) (by omega)
  rw [take_min] at hv8
  have hkl : (b0.take 6).length ≤ 6 := List.length_take_le 6 b0
  generalize hkey : b0.take 6 = key at *
  have hls : ∀ s : List UInt8, qBuiltin E0 h .len [.str s] [9] = some (.int .i64 (s.length : Nat)) := fun s => by simp only [go_sem, reduceIte, Nat.reduceEqDiff, Nat.reduceAdd, Nat.reduceMul, Nat.reduceSub, Int.reduceLE, Int.reduceLT, Int.reduceNe, Int.reduceToNat, Int.reducePow, Int.reduceAdd, Int.reduceMul, reduceCtorEq, true_and, and_true, cond_true, cond_false, List.map_cons, List.map_nil, Option.map_some, Option.map_none, List.getElem?_cons_zero, List.getElem?_cons_succ, ne_eq, not_false_eq_true, List.nil_append, List.append_nil, List.cons_append, List.contains_cons, List.contains_nil, Nat.reduceBEq, Bool.or_false, Bool.false_or, Bool.true_or, Bool.or_true]
  simp only [w_lc6_8, go_sem, reduceIte, Nat.reduceEqDiff, Nat.reduceAdd, Nat.reduceMul, Nat.reduceSub, Int.reduceLE, Int.reduceLT, Int.reduceNe, Int.reduceToNat, Int.reducePow, Int.reduceAdd, Int.reduceMul, reduceCtorEq, true_and, and_true, cond_true, cond_false, List.map_cons, List.map_nil, Option.map_some, Option.map_none, List.getElem?_cons_zero, List.getElem?_cons_succ, ne_eq, not_false_eq_true, List.nil_append, List.append_nil, List.cons_append, List.contains_cons, List.contains_nil, Nat.reduceBEq, Bool.or_false, Bool.false_or, Bool.true_or, Bool.or_true, h11, len_bytes byte24 hb, e8, conv_bytes byte24 str9 hv8]
  refine wLoop_inv (fun k fr h1 => ∃ j, k = key.length - j ∧ j ≤ key.length ∧ h1 = h ∧ F6 fr pv other nv tv av kv N i ∧ fr 12 = .str key ∧ fr 13 = .str (nameB (key.take j)) ∧ fr 59 = .int .i64 (key.length : Nat) ∧ fr 60 = .int .i64 (j : Nat)) ?_ m key.length _ _ (by omega)
    ⟨0, rfl, by omega, rfl, (by repeat (first | exact hf | refine F6.set ?_ (by decide))), by simp only [go_sem, reduceIte, Nat.reduceEqDiff, Nat.reduceAdd, Nat.reduceMul, Nat.reduceSub, Int.reduceLE, Int.reduceLT, Int.reduceNe, Int.reduceToNat, Int.reducePow, Int.reduceAdd, Int.reduceMul, reduceCtorEq, true_and, and_true, cond_true, cond_false, List.map_cons, List.map_nil, Option.map_some, Option.map_none, List.getElem?_cons_zero, List.getElem?_cons_succ, ne_eq, not_false_eq_true, List.nil_append, List.append_nil, List.cons_append, List.contains_cons, List.contains_nil, Nat.reduceBEq, Bool.or_false, Bool.false_or, Bool.true_or, Bool.or_true], by simp only [go_sem, reduceIte, Nat.reduceEqDiff, Nat.reduceAdd, Nat.reduceMul, Nat.reduceSub, Int.reduceLE, Int.reduceLT, Int.reduceNe, Int.reduceToNat, Int.reducePow, Int.reduceAdd, Int.reduceMul, reduceCtorEq, true_and, and_true, cond_true, cond_false, List.map_cons, List.map_nil, Option.map_some, Option.map_none, List.getElem?_cons_zero, List.getElem?_cons_succ, ne_eq, not_false_eq_true, List.nil_append, List.append_nil, List.cons_append, List.contains_cons, List.contains_nil, Nat.reduceBEq, Bool.or_false, Bool.false_or, Bool.true_or, Bool.or_true]; rfl, by simp only [go_sem, reduceIte, Nat.reduceEqDiff, Nat.reduceAdd, Nat.reduceMul, Nat.reduceSub, Int.reduceLE, Int.reduceLT, Int.reduceNe, Int.reduceToNat, Int.reducePow, Int.reduceAdd, Int.reduceMul, reduceCtorEq, true_and, and_true, cond_true, cond_false, List.map_cons, List.map_nil, Option.map_some, Option.map_none, List.getElem?_cons_zero, List.getElem?_cons_succ, ne_eq, not_false_eq_true, List.nil_append, List.append_nil, List.cons_append, List.contains_cons, List.contains_nil, Nat.reduceBEq, Bool.or_false, Bool.false_or, Bool.true_or, Bool.or_true], by simp only [go_sem, reduceIte, Nat.reduceEqDiff, Nat.reduceAdd, Nat.reduceMul, Nat.reduceSub, Int.reduceLE, Int.reduceLT, Int.reduceNe, Int.reduceToNat, Int.reducePow, Int.reduceAdd, Int.reduceMul, reduceCtorEq, true_and, and_true, cond_true, cond_false, List.map_cons, List.map_nil, Option.map_some, Option.map_none, List.getElem?_cons_zero, List.getElem?_cons_succ, ne_eq, not_false_eq_true, List.nil_append, List.append_nil, List.cons_append, List.contains_cons, List.contains_nil, Nat.reduceBEq, Bool.or_false, Bool.false_or, Bool.true_or, Bool.or_true]; rfl⟩
  rintro k fr _ ⟨j, rfl, hj, rfl, hf, f12, f13, f59, f60⟩
  simp only [go_sem, reduceIte, Nat.reduceEqDiff, Nat.reduceAdd, Nat.reduceMul, Nat.reduceSub, Int.reduceLE, Int.reduceLT, Int.reduceNe, Int.reduceToNat, Int.reducePow, Int.reduceAdd, Int.reduceMul, reduceCtorEq, true_and, and_true, cond_true, cond_false, List.map_cons, List.map_nil, Option.map_some, Option.map_none, List.getElem?_cons_zero, List.getElem?_cons_succ, ne_eq, not_false_eq_true, List.nil_append, List.append_nil, List.cons_append, List.contains_cons, List.contains_nil, Nat.reduceBEq, Bool.or_false, Bool.false_or, Bool.true_or, Bool.or_true, f12, f13, f59, f60]
  refine condK_intro (fun hc => ?_) (fun hc => ?_)
  case refine_2 =>
    have hc : j = key.length := by have := of_decide_eq_false hc; omega
    subst hc
    rw [List.take_length] at f13
    simp only [go_sem, reduceIte, Nat.reduceEqDiff, Nat.reduceAdd, Nat.reduceMul, Nat.reduceSub, Int.reduceLE, Int.reduceLT, Int.reduceNe, Int.reduceToNat, Int.reducePow, Int.reduceAdd, Int.reduceMul, reduceCtorEq, true_and, and_true, cond_true, cond_false, List.map_cons, List.map_nil, Option.map_some, Option.map_none, List.getElem?_cons_zero, List.getElem?_cons_succ, ne_eq, not_false_eq_true, List.nil_append, List.append_nil, List.cons_append, List.contains_cons, List.contains_nil, Nat.reduceBEq, Bool.or_false, Bool.false_or, Bool.true_or, Bool.or_true]
    exact hQ _ (by repeat (first | exact hf | refine F6.set ?_ (by decide))) (by simp only [go_sem, reduceIte, Nat.reduceEqDiff, Nat.reduceAdd, Nat.reduceMul, Nat.reduceSub, Int.reduceLE, Int.reduceLT, Int.reduceNe, Int.reduceToNat, Int.reducePow, Int.reduceAdd, Int.reduceMul, reduceCtorEq, true_and, and_true, cond_true, cond_false, List.map_cons, List.map_nil, Option.map_some, Option.map_none, List.getElem?_cons_zero, List.getElem?_cons_succ, ne_eq, not_false_eq_true, List.nil_append, List.append_nil, List.cons_append, List.contains_cons, List.contains_nil, Nat.reduceBEq, Bool.or_false, Bool.false_or, Bool.true_or, Bool.or_true, f12]) (by simp only [go_sem, reduceIte, Nat.reduceEqDiff, Nat.reduceAdd, Nat.reduceMul, Nat.reduceSub, Int.reduceLE, Int.reduceLT, Int.reduceNe, Int.reduceToNat, Int.reducePow, Int.reduceAdd, Int.reduceMul, reduceCtorEq, true_and, and_true, cond_true, cond_false, List.map_cons, List.map_nil, Option.map_some, Option.map_none, List.getElem?_cons_zero, List.getElem?_cons_succ, ne_eq, not_false_eq_true, List.nil_append, List.append_nil, List.cons_append, List.contains_cons, List.contains_nil, Nat.reduceBEq, Bool.or_false, Bool.false_or, Bool.true_or, Bool.or_true, f13])
  case refine_1 =>
    have hc : j < key.length := by have := of_decide_eq_true hc; omega
    have hx : key[j]? = some key[j] := List.getElem?_eq_getElem hc
    generalize key[j] = c at hx
    have hcl := c.toNat_lt
    have hnx : nameB (key.take (j + 1)) = nameB (key.take j) ++ [UInt8.ofNat (digitN (c.toNat / 16))] ++ [UInt8.ofNat (digitN (c.toNat % 16))] := by
      rw [take_succ_of hx]; simp [nameB, hexB]
    have hnl : (nameB (key.take j)).length ≤ 13 := by
      rw [name_len]
      have : (key.take j).length ≤ 6 := by rw [List.length_take]; omega
      omega
    have a1 : ∀ t, aBin E0 .add t (.str (nameB (key.take j))) (.str [UInt8.ofNat (digitN (c.toNat / 16))]) = some (.str (nameB (key.take j) ++ [UInt8.ofNat (digitN (c.toNat / 16))])) := fun t => bin_sadd (by simp; omega)
    have a2 : ∀ t, aBin E0 .add t (.str (nameB (key.take j) ++ [UInt8.ofNat (digitN (c.toNat / 16))])) (.str [UInt8.ofNat (digitN (c.toNat % 16))]) = some (.str (nameB (key.take (j + 1)))) := fun t => by rw [hnx]; exact bin_sadd (by simp; omega)
    simp only [go_sem, reduceIte, Nat.reduceEqDiff, Nat.reduceAdd, Nat.reduceMul, Nat.reduceSub, Int.reduceLE, Int.reduceLT, Int.reduceNe, Int.reduceToNat, Int.reducePow, Int.reduceAdd, Int.reduceMul, reduceCtorEq, true_and, and_true, cond_true, cond_false, List.map_cons, List.map_nil, Option.map_some, Option.map_none, List.getElem?_cons_zero, List.getElem?_cons_succ, ne_eq, not_false_eq_true, List.nil_append, List.append_nil, List.cons_append, List.contains_cons, List.contains_nil, Nat.reduceBEq, Bool.or_false, Bool.false_or, Bool.true_or, Bool.or_true, f12, f13, f59, f60, idx_str str9 hx, shr4, and15 c.toNat hcl, w_u8_inc (show c.toNat / 16 < 255 by omega), w_u8_inc (show c.toNat % 16 < 255 by omega), hexdig (show c.toNat / 16 < 16 by omega), hexdig (show c.toNat % 16 < 16 by omega), a1, a2, w_inc (show j ≤ 1000000000 by omega)]
    exact ⟨key.length - (j + 1), by omega, j + 1, rfl, by omega, by repeat (first | exact hf | refine F6.set ?_ (by decide)), rfl, rfl⟩

theorem fs58 : (E0.fn 58).isSome = true := by kernel_rfl
theorem fs60 : (E0.fn 60).isSome = true := by kernel_rfl
theorem keyB {n m : Nat} (hn : 10 ≤ n) {h : AH} {fr : Nat → AV} {pv nv tv av kv : AV} {other key : List UInt8} {N i : Nat} (hf : F6 fr pv other nv tv av kv N i) (h12 : fr 12 = .str key) (h13 : fr 13 = .str (nameB key)) (hk6 : key.length ≤ 6)
    {Q : CR → Prop} (hQe : key = [] → ∀ fr' h', F6 fr' pv other nv tv av kv N i → Keep h h' [] → Q (.go 3 fr' h'))
    (hQ : objOK key = true → ∀ fr' h', F6 fr' pv other nv tv av kv N i → fr' 12 = .str key → fr' 13 = .str (nameB key) → Keep h h' [] → wCode E0 (aCall E0 sp0 100000 n) m lc6_27 fr' h' Q) :
    wCode E0 (aCall E0 sp0 100000 n) m lc6_17 fr h Q := by
  obtain ⟨_, e1, h1, rfl, k1⟩ := object_con key h n (by omega)
  by_cases h0 : key = []
  · subst h0
    have e1 : aCall E0 sp0 100000 n 58 [.str []] h = some (.ret (.tup [.str [], .int .i64 90]) h1) := e1
    have d0 : (([] : List UInt8) == []) = true := rfl
    simp only [w_lc6_17, go_sem, reduceIte, Nat.reduceEqDiff, Nat.reduceAdd, Nat.reduceMul, Nat.reduceSub, Int.reduceLE, Int.reduceLT, Int.reduceNe, Int.reduceToNat, Int.reducePow, Int.reduceAdd, Int.reduceMul, reduceCtorEq, true_and, and_true, cond_true, cond_false, List.map_cons, List.map_nil, Option.map_some, Option.map_none, List.getElem?_cons_zero, List.getElem?_cons_succ, ne_eq, not_false_eq_true, List.nil_append, List.append_nil, List.cons_append, List.contains_cons, List.contains_nil, Nat.reduceBEq, Bool.or_false, Bool.false_or, Bool.true_or, Bool.or_true, h12, st_callf fs58, e1, d0]
    exact hQe rfl _ _ (by repeat (first | exact hf | refine F6.set ?_ (by decide))) k1
  · have hok : objOK key = true := by
      have : key.length ≤ 255 := by omega
      simp [objOK, h0, this]
    rw [hok] at e1
    simp only [cond_true] at e1
    have d0 : (key == []) = false := by simp [h0]
    have hnl := name_len key
    obtain ⟨_, e2, h2, rfl, k2⟩ := key_con (nameB key) (by omega) h1 n (by omega)
    rw [key_name hok] at e2
    simp only [Option.getD_some, Option.isSome_some] at e2
    obtain ⟨_, e3, h3, rfl, k3⟩ := kind_con (nameB key) (by omega) h2 n (by omega)
    rw [kind_name hok] at e3
    have e3 : aCall E0 sp0 100000 n 60 [.str (nameB key)] h2 = some (.ret (.int .i64 1) h3) := e3
    have d1 : (nameB key == nameB key) = true := by simp
    have d2 : (key == key) = true := by simp
    simp only [w_lc6_17, go_sem, reduceIte, Nat.reduceEqDiff, Nat.reduceAdd, Nat.reduceMul, Nat.reduceSub, Int.reduceLE, Int.reduceLT, Int.reduceNe, Int.reduceToNat, Int.reducePow, Int.reduceAdd, Int.reduceMul, reduceCtorEq, true_and, and_true, cond_true, cond_false, List.map_cons, List.map_nil, Option.map_some, Option.map_none, List.getElem?_cons_zero, List.getElem?_cons_succ, ne_eq, not_false_eq_true, List.nil_append, List.append_nil, List.cons_append, List.contains_cons, List.contains_nil, Nat.reduceBEq, Bool.or_false, Bool.false_or, Bool.true_or, Bool.or_true, h12, h13, st_callf fs58, st_callf fs59, st_callf fs60, e1, e2, e3, d0, d1, d2]
    exact hQ hok _ _ (by repeat (first | exact hf | refine F6.set ?_ (by decide))) (by simp only [go_sem, reduceIte, Nat.reduceEqDiff, Nat.reduceAdd, Nat.reduceMul, Nat.reduceSub, Int.reduceLE, Int.reduceLT, Int.reduceNe, Int.reduceToNat, Int.reducePow, Int.reduceAdd, Int.reduceMul, reduceCtorEq, true_and, and_true, cond_true, cond_false, List.map_cons, List.map_nil, Option.map_some, Option.map_none, List.getElem?_cons_zero, List.getElem?_cons_succ, ne_eq, not_false_eq_true, List.nil_append, List.append_nil, List.cons_append, List.contains_cons, List.contains_nil, Nat.reduceBEq, Bool.or_false, Bool.false_or, Bool.true_or, Bool.or_true, h12]) (by simp only [go_sem, reduceIte, Nat.reduceEqDiff, Nat.reduceAdd, Nat.reduceMul, Nat.reduceSub, Int.reduceLE, Int.reduceLT, Int.reduceNe, Int.reduceToNat, Int.reducePow, Int.reduceAdd, Int.reduceMul, reduceCtorEq, true_and, and_true, cond_true, cond_false, List.map_cons, List.map_nil, Option.map_some, Option.map_none, List.getElem?_cons_zero, List.getElem?_cons_succ, ne_eq, not_false_eq_true, List.nil_append, List.append_nil, List.cons_append, List.contains_cons, List.contains_nil, Nat.reduceBEq, Bool.or_false, Bool.false_or, Bool.true_or, Bool.or_true, h13]) (((k1.trans k2).trans k3).mono (by simp))

theorem bneq4 {a b : Bool} : aBin E0 .neq 4 (.bool a) (.bool b) = some (.bool !(a == b)) := bin_bneq (by kernel_rfl)
theorem keyC {n m : Nat} (hm : 9223372036854775808 ≤ m) {h : AH} {fr : Nat → AV} {pv nv tv av kv : AV} {other key : List UInt8} {N i : Nat} (hf : F6 fr pv other nv tv av kv N i) (h12 : fr 12 = .str key) (h13 : fr 13 = .str (nameB key)) {ts : List (List UInt8)}
    (ht : GS 1 h tv ts.length (strs ts)) (hnm : GS 1 h nv ts.length (strs (ts.map nameB))) (hl : ts.length ≤ 1000)
    {Q : CR → Prop} (hQ : ∀ fr', F6 fr' pv other nv tv av kv N i → fr' 12 = .str key → fr' 13 = .str (nameB key) → wCode E0 (aCall E0 sp0 100000 n) m lc6_36 fr' h Q) :
    wCode E0 (aCall E0 sp0 100000 n) m lc6_27 fr h Q := by
  simp only [w_lc6_27, go_sem, reduceIte, Nat.reduceEqDiff, Nat.reduceAdd, Nat.reduceMul, Nat.reduceSub, Int.reduceLE, Int.reduceLT, Int.reduceNe, Int.reduceToNat, Int.reducePow, Int.reduceAdd, Int.reduceMul, reduceCtorEq, true_and, and_true, cond_true, cond_false, List.map_cons, List.map_nil, Option.map_some, Option.map_none, List.getElem?_cons_zero, List.getElem?_cons_succ, ne_eq, not_false_eq_true, List.nil_append, List.append_nil, List.cons_append, List.contains_cons, List.contains_nil, Nat.reduceBEq, Bool.or_false, Bool.false_or, Bool.true_or, Bool.or_true, hf.f8, len_gen sl48 ht]
  refine wLoop_inv (fun k fr h1 => ∃ j, k = ts.length - j ∧ j ≤ ts.length ∧ h1 = h ∧ F6 fr pv other nv tv av kv N i ∧ fr 12 = .str key ∧ fr 13 = .str (nameB key) ∧ fr 126 = tv ∧ fr 127 = .int .i64 (ts.length : Nat) ∧ fr 128 = .int .i64 (j : Nat)) ?_ m ts.length _ _ (by omega)
    ⟨0, rfl, by omega, rfl, (by repeat (first | exact hf | refine F6.set ?_ (by decide))), by simp only [go_sem, reduceIte, Nat.reduceEqDiff, Nat.reduceAdd, Nat.reduceMul, Nat.reduceSub, Int.reduceLE, Int.reduceLT, Int.reduceNe, Int.reduceToNat, Int.reducePow, Int.reduceAdd, Int.reduceMul, reduceCtorEq, true_and, and_true, cond_true, cond_false, List.map_cons, List.map_nil, Option.map_some, Option.map_none, List.getElem?_cons_zero, List.getElem?_cons_succ, ne_eq, not_false_eq_true, List.nil_append, List.append_nil, List.cons_append, List.contains_cons, List.contains_nil, Nat.reduceBEq, Bool.or_false, Bool.false_or, Bool.true_or, Bool.or_true, h12], by simp only [go_sem, reduceIte, Nat.reduceEqDiff, Nat.reduceAdd, Nat.reduceMul, Nat.reduceSub, Int.reduceLE, Int.reduceLT, Int.reduceNe, Int.reduceToNat, Int.reducePow, Int.reduceAdd, Int.reduceMul, reduceCtorEq, true_and, and_true, cond_true, cond_false, List.map_cons, List.map_nil, Option.map_some, Option.map_none, List.getElem?_cons_zero, List.getElem?_cons_succ, ne_eq, not_false_eq_true, List.nil_append, List.append_nil, List.cons_append, List.contains_cons, List.contains_nil, Nat.reduceBEq, Bool.or_false, Bool.false_or, Bool.true_or, Bool.or_true, h13], by simp only [go_sem, reduceIte, Nat.reduceEqDiff, Nat.reduceAdd, Nat.reduceMul, Nat.reduceSub, Int.reduceLE, Int.reduceLT, Int.reduceNe, Int.reduceToNat, Int.reducePow, Int.reduceAdd, Int.reduceMul, reduceCtorEq, true_and, and_true, cond_true, cond_false, List.map_cons, List.map_nil, Option.map_some, Option.map_none, List.getElem?_cons_zero, List.getElem?_cons_succ, ne_eq, not_false_eq_true, List.nil_append, List.append_nil, List.cons_append, List.contains_cons, List.contains_nil, Nat.reduceBEq, Bool.or_false, Bool.false_or, Bool.true_or, Bool.or_true], by simp only [go_sem, reduceIte, Nat.reduceEqDiff, Nat.reduceAdd, Nat.reduceMul, Nat.reduceSub, Int.reduceLE, Int.reduceLT, Int.reduceNe, Int.reduceToNat, Int.reducePow, Int.reduceAdd, Int.reduceMul, reduceCtorEq, true_and, and_true, cond_true, cond_false, List.map_cons, List.map_nil, Option.map_some, Option.map_none, List.getElem?_cons_zero, List.getElem?_cons_succ, ne_eq, not_false_eq_true, List.nil_append, List.append_nil, List.cons_append, List.contains_cons, List.contains_nil, Nat.reduceBEq, Bool.or_false, Bool.false_or, Bool.true_or, Bool.or_true], by simp only [go_sem, reduceIte, Nat.reduceEqDiff, Nat.reduceAdd, Nat.reduceMul, Nat.reduceSub, Int.reduceLE, Int.reduceLT, Int.reduceNe, Int.reduceToNat, Int.reducePow, Int.reduceAdd, Int.reduceMul, reduceCtorEq, true_and, and_true, cond_true, cond_false, List.map_cons, List.map_nil, Option.map_some, Option.map_none, List.getElem?_cons_zero, List.getElem?_cons_succ, ne_eq, not_false_eq_true, List.nil_append, List.append_nil, List.cons_append, List.contains_cons, List.contains_nil, Nat.reduceBEq, Bool.or_false, Bool.false_or, Bool.true_or, Bool.or_true]; rfl⟩
  rintro k fr _ ⟨j, rfl, hj, rfl, hf, f12, f13, f126, f127, f128⟩
  simp only [go_sem, reduceIte, Nat.reduceEqDiff, Nat.reduceAdd, Nat.reduceMul, Nat.reduceSub, Int.reduceLE, Int.reduceLT, Int.reduceNe, Int.reduceToNat, Int.reducePow, Int.reduceAdd, Int.reduceMul, reduceCtorEq, true_and, and_true, cond_true, cond_false, List.map_cons, List.map_nil, Option.map_some, Option.map_none, List.getElem?_cons_zero, List.getElem?_cons_succ, ne_eq, not_false_eq_true, List.nil_append, List.append_nil, List.cons_append, List.contains_cons, List.contains_nil, Nat.reduceBEq, Bool.or_false, Bool.false_or, Bool.true_or, Bool.or_true, f126, f127, f128]
  refine condK_intro (fun hc => ?_) (fun hc => ?_)
  case refine_2 =>
    simp only [go_sem, reduceIte, Nat.reduceEqDiff, Nat.reduceAdd, Nat.reduceMul, Nat.reduceSub, Int.reduceLE, Int.reduceLT, Int.reduceNe, Int.reduceToNat, Int.reducePow, Int.reduceAdd, Int.reduceMul, reduceCtorEq, true_and, and_true, cond_true, cond_false, List.map_cons, List.map_nil, Option.map_some, Option.map_none, List.getElem?_cons_zero, List.getElem?_cons_succ, ne_eq, not_false_eq_true, List.nil_append, List.append_nil, List.cons_append, List.contains_cons, List.contains_nil, Nat.reduceBEq, Bool.or_false, Bool.false_or, Bool.true_or, Bool.or_true]
    exact hQ _ (by repeat (first | exact hf | refine F6.set ?_ (by decide))) (by simp only [go_sem, reduceIte, Nat.reduceEqDiff, Nat.reduceAdd, Nat.reduceMul, Nat.reduceSub, Int.reduceLE, Int.reduceLT, Int.reduceNe, Int.reduceToNat, Int.reducePow, Int.reduceAdd, Int.reduceMul, reduceCtorEq, true_and, and_true, cond_true, cond_false, List.map_cons, List.map_nil, Option.map_some, Option.map_none, List.getElem?_cons_zero, List.getElem?_cons_succ, ne_eq, not_false_eq_true, List.nil_append, List.append_nil, List.cons_append, List.contains_cons, List.contains_nil, Nat.reduceBEq, Bool.or_false, Bool.false_or, Bool.true_or, Bool.or_true, f12]) (by simp only [go_sem, reduceIte, Nat.reduceEqDiff, Nat.reduceAdd, Nat.reduceMul, Nat.reduceSub, Int.reduceLE, Int.reduceLT, Int.reduceNe, Int.reduceToNat, Int.reducePow, Int.reduceAdd, Int.reduceMul, reduceCtorEq, true_and, and_true, cond_true, cond_false, List.map_cons, List.map_nil, Option.map_some, Option.map_none, List.getElem?_cons_zero, List.getElem?_cons_succ, ne_eq, not_false_eq_true, List.nil_append, List.append_nil, List.cons_append, List.contains_cons, List.contains_nil, Nat.reduceBEq, Bool.or_false, Bool.false_or, Bool.true_or, Bool.or_true, f13])
  case refine_1 =>
    have hc : j < ts.length := by have := of_decide_eq_true hc; omega
    have hx : ts[j]? = some ts[j] := List.getElem?_eq_getElem hc
    generalize ts[j] = t at hx
    have hxn : (ts.map nameB)[j]? = some (nameB t) := by simp [hx]
    obtain ⟨p, e1, e2⟩ := index_load sl48 at9 ht (k := .i64) (strs_get hx)
    obtain ⟨q, e3, e4⟩ := index_load sl48 at9 hnm (k := .i64) (strs_get hxn)
    have c1 := name_bl key t
    have c2 := name_eq key t
    have bb : ∀ b : Bool, (b == b) = true := fun b => by simp
    simp only [go_sem, reduceIte, Nat.reduceEqDiff, Nat.reduceAdd, Nat.reduceMul, Nat.reduceSub, Int.reduceLE, Int.reduceLT, Int.reduceNe, Int.reduceToNat, Int.reducePow, Int.reduceAdd, Int.reduceMul, reduceCtorEq, true_and, and_true, cond_true, cond_false, List.map_cons, List.map_nil, Option.map_some, Option.map_none, List.getElem?_cons_zero, List.getElem?_cons_succ, ne_eq, not_false_eq_true, List.nil_append, List.append_nil, List.cons_append, List.contains_cons, List.contains_nil, Nat.reduceBEq, Bool.or_false, Bool.false_or, Bool.true_or, Bool.or_true, f12, f13, f126, f127, f128, hf.f7, e1, e2, e3, e4, c1, c2, bneq4, bb, Bool.not_true, w_inc (show j ≤ 1000000000 by omega)]
    exact ⟨ts.length - (j + 1), by omega, j + 1, rfl, by omega, (by repeat (first | exact hf | refine F6.set ?_ (by decide))), rfl⟩

/-- Three slices of the code's own, apart from each other, since a time. -/
structure Three (h0 h : AH) (a b c : AV) (xs ys zs : List (List UInt8)) : Prop where
  oa : OwnA 9 1 h a xs.length (strs xs)
  ob : OwnA 9 1 h b ys.length (strs ys)
  oc : OwnA 9 1 h c zs.length (strs zs)
  fa : ∀ j ∈ ids a, h0.next ≤ j
  fb : ∀ j ∈ ids b, h0.next ≤ j
  fc : ∀ j ∈ ids c, h0.next ≤ j
  ab : ∀ j ∈ ids a, j ∉ ids b
  ac : ∀ j ∈ ids a, j ∉ ids c
  bc : ∀ j ∈ ids b, j ∉ ids c
  keep : Keep h0 h []
theorem Three.same {h0 h h1 : AH} {a b c : AV} {xs ys zs : List (List UInt8)} (t : Three h0 h a b c xs ys zs) (k : Keep h h1 []) : Three h0 h1 a b c xs ys zs :=
  ⟨t.oa.keep k (by simp), t.ob.keep k (by simp), t.oc.keep k (by simp), t.fa, t.fb, t.fc, t.ab, t.ac, t.bc, (t.keep.trans k).mono (by simp)⟩
theorem Three.rot {h0 h : AH} {a b c : AV} {xs ys zs : List (List UInt8)} (t : Three h0 h a b c xs ys zs) : Three h0 h b c a ys zs xs :=
  ⟨t.ob, t.oc, t.oa, t.fb, t.fc, t.fa, t.bc, fun j hj hx => t.ab j hx hj, fun j hj hx => t.ac j hx hj, t.keep⟩
theorem Three.put {h0 h h1 : AH} {a b c a' : AV} {xs ys zs xs' : List (List UInt8)} (t : Three h0 h a b c xs ys zs) (ho : OwnA 9 1 h1 a' xs'.length (strs xs')) (g : Grew h h1 a a') : Three h0 h1 a' b c xs' ys zs :=
  have hn := t.keep.next
  ⟨ho, t.ob.keep g.keep (fun i hi hx => t.ab i hx hi), t.oc.keep g.keep (fun i hi hx => t.ac i hx hi),
   fun j hj => by
    rcases g.fresh j hj with x | x
    · exact t.fa j x
    · omega,
   t.fb, t.fc,
   fun j hj hx => by
    rcases g.fresh j hj with x | x
    · exact t.ab j x hx
    · have := t.ob.lt j hx; omega,
   fun j hj hx => by
    rcases g.fresh j hj with x | x
    · exact t.ac j x hx
    · have := t.oc.lt j hx; omega,
   t.bc, t.keep.fresh g.keep t.fa⟩
theorem build_three {h : AH} {s t : List UInt8} : aBuildSlice E0 h 48 3 [(0, .str s), (1, .str [116]), (2, .str t)] = some (.sl h.next 0 3 3 false, h.push (.cells [.str s, .str [116], .str t] 9 .own)) := by kernel_rfl
theorem append_three {h : AH} {v : AV} {ts : List (List UInt8)} (ho : OwnA 9 1 h v ts.length (strs ts)) {s t u : List UInt8} (hn : ts.length + 3 ≤ 1000000) :
    ∃ v' h', eBuiltin E0 (h.push (.cells [.str s, .str t, .str u] 9 .own)) .append [v, .sl h.next 0 3 3 false] [48, 48] = some (v', h') ∧ OwnA 9 1 h' v' (ts ++ [s, t, u]).length (strs (ts ++ [s, t, u])) ∧ Grew h h' v v' := by
  obtain ⟨v', h', h1, h2, h3⟩ := append_gen sl48 seq48 (ho.keep (Keep.push h (.cells [.str s, .str t, .str u] 9 .own)) (by simp)) (OwnA.own (h := h) (e := 9) (sz := 1) (n := 3) (cs := [.str s, .str t, .str u]) rfl rfl).gs.news rfl rfl (by omega)
  refine ⟨v', h', h1, ?_, h3.push⟩
  rw [strs_append, List.length_append]
  exact h2

theorem keyD {n m : Nat} {h0 h : AH} {fr : Nat → AV} {pv nv tv av kv : AV} {other key : List UInt8} {N i : Nat} (hf : F6 fr pv other nv tv av kv N i) (h13 : fr 13 = .str (nameB key)) (h12 : fr 12 = .str key) {ns ts al : List (List UInt8)}
    (t : Three h0 h nv tv av ns ts al) (hl : ns.length ≤ 1000) (hl2 : ts.length ≤ 1000) (hl3 : al.length ≤ 1000)
    {Q : CR → Prop} (hQ : ∀ fr' h' nv' tv' av', F6 fr' pv other nv' tv' av' kv N i → fr' 13 = .str (nameB key) → Three h0 h' nv' tv' av' (ns ++ [nameB key]) (ts ++ [key]) (al ++ [nameB key, [116], nameB key]) → wCode E0 (aCall E0 sp0 100000 n) m lc6_38 fr' h' Q) :
    wCode E0 (aCall E0 sp0 100000 n) m lc6_36 fr h Q := by
  obtain ⟨nv', h1, e1, o1, g1⟩ := append_text (s := nameB key) t.oa (by omega)
  have t1 := (t.put o1 g1).rot
  obtain ⟨tv', h2, e2, o2, g2⟩ := append_text (s := key) t1.oa (by omega)
  have t2 := (t1.put o2 g2).rot
  obtain ⟨av', h3, e3, o3, g3⟩ := append_three (s := nameB key) (t := [116]) (u := nameB key) t2.oa (by omega)
  have t3 := (t2.put o3 g3).rot
  simp only [w_lc6_36, go_sem, reduceIte, Nat.reduceEqDiff, Nat.reduceAdd, Nat.reduceMul, Nat.reduceSub, Int.reduceLE, Int.reduceLT, Int.reduceNe, Int.reduceToNat, Int.reducePow, Int.reduceAdd, Int.reduceMul, reduceCtorEq, true_and, and_true, cond_true, cond_false, List.map_cons, List.map_nil, Option.map_some, Option.map_none, List.getElem?_cons_zero, List.getElem?_cons_succ, ne_eq, not_false_eq_true, List.nil_append, List.append_nil, List.cons_append, List.contains_cons, List.contains_nil, Nat.reduceBEq, Bool.or_false, Bool.false_or, Bool.true_or, Bool.or_true, hf.f7, hf.f8, hf.f9, h12, h13, build_text, build_three, e1, e2, e3]
  refine hQ _ _ _ _ _ ⟨by simp only [go_sem, reduceIte, Nat.reduceEqDiff, Nat.reduceAdd, Nat.reduceMul, Nat.reduceSub, Int.reduceLE, Int.reduceLT, Int.reduceNe, Int.reduceToNat, Int.reducePow, Int.reduceAdd, Int.reduceMul, reduceCtorEq, true_and, and_true, cond_true, cond_false, List.map_cons, List.map_nil, Option.map_some, Option.map_none, List.getElem?_cons_zero, List.getElem?_cons_succ, ne_eq, not_false_eq_true, List.nil_append, List.append_nil, List.cons_append, List.contains_cons, List.contains_nil, Nat.reduceBEq, Bool.or_false, Bool.false_or, Bool.true_or, Bool.or_true, hf.f1], by simp only [go_sem, reduceIte, Nat.reduceEqDiff, Nat.reduceAdd, Nat.reduceMul, Nat.reduceSub, Int.reduceLE, Int.reduceLT, Int.reduceNe, Int.reduceToNat, Int.reducePow, Int.reduceAdd, Int.reduceMul, reduceCtorEq, true_and, and_true, cond_true, cond_false, List.map_cons, List.map_nil, Option.map_some, Option.map_none, List.getElem?_cons_zero, List.getElem?_cons_succ, ne_eq, not_false_eq_true, List.nil_append, List.append_nil, List.cons_append, List.contains_cons, List.contains_nil, Nat.reduceBEq, Bool.or_false, Bool.false_or, Bool.true_or, Bool.or_true, hf.f2], by simp only [go_sem, reduceIte, Nat.reduceEqDiff, Nat.reduceAdd, Nat.reduceMul, Nat.reduceSub, Int.reduceLE, Int.reduceLT, Int.reduceNe, Int.reduceToNat, Int.reducePow, Int.reduceAdd, Int.reduceMul, reduceCtorEq, true_and, and_true, cond_true, cond_false, List.map_cons, List.map_nil, Option.map_some, Option.map_none, List.getElem?_cons_zero, List.getElem?_cons_succ, ne_eq, not_false_eq_true, List.nil_append, List.append_nil, List.cons_append, List.contains_cons, List.contains_nil, Nat.reduceBEq, Bool.or_false, Bool.false_or, Bool.true_or, Bool.or_true], by simp only [go_sem, reduceIte, Nat.reduceEqDiff, Nat.reduceAdd, Nat.reduceMul, Nat.reduceSub, Int.reduceLE, Int.reduceLT, Int.reduceNe, Int.reduceToNat, Int.reducePow, Int.reduceAdd, Int.reduceMul, reduceCtorEq, true_and, and_true, cond_true, cond_false, List.map_cons, List.map_nil, Option.map_some, Option.map_none, List.getElem?_cons_zero, List.getElem?_cons_succ, ne_eq, not_false_eq_true, List.nil_append, List.append_nil, List.cons_append, List.contains_cons, List.contains_nil, Nat.reduceBEq, Bool.or_false, Bool.false_or, Bool.true_or, Bool.or_true], by simp only [go_sem, reduceIte, Nat.reduceEqDiff, Nat.reduceAdd, Nat.reduceMul, Nat.reduceSub, Int.reduceLE, Int.reduceLT, Int.reduceNe, Int.reduceToNat, Int.reducePow, Int.reduceAdd, Int.reduceMul, reduceCtorEq, true_and, and_true, cond_true, cond_false, List.map_cons, List.map_nil, Option.map_some, Option.map_none, List.getElem?_cons_zero, List.getElem?_cons_succ, ne_eq, not_false_eq_true, List.nil_append, List.append_nil, List.cons_append, List.contains_cons, List.contains_nil, Nat.reduceBEq, Bool.or_false, Bool.false_or, Bool.true_or, Bool.or_true], by simp only [go_sem, reduceIte, Nat.reduceEqDiff, Nat.reduceAdd, Nat.reduceMul, Nat.reduceSub, Int.reduceLE, Int.reduceLT, Int.reduceNe, Int.reduceToNat, Int.reducePow, Int.reduceAdd, Int.reduceMul, reduceCtorEq, true_and, and_true, cond_true, cond_false, List.map_cons, List.map_nil, Option.map_some, Option.map_none, List.getElem?_cons_zero, List.getElem?_cons_succ, ne_eq, not_false_eq_true, List.nil_append, List.append_nil, List.cons_append, List.contains_cons, List.contains_nil, Nat.reduceBEq, Bool.or_false, Bool.false_or, Bool.true_or, Bool.or_true, hf.f46], by simp only [go_sem, reduceIte, Nat.reduceEqDiff, Nat.reduceAdd, Nat.reduceMul, Nat.reduceSub, Int.reduceLE, Int.reduceLT, Int.reduceNe, Int.reduceToNat, Int.reducePow, Int.reduceAdd, Int.reduceMul, reduceCtorEq, true_and, and_true, cond_true, cond_false, List.map_cons, List.map_nil, Option.map_some, Option.map_none, List.getElem?_cons_zero, List.getElem?_cons_succ, ne_eq, not_false_eq_true, List.nil_append, List.append_nil, List.cons_append, List.contains_cons, List.contains_nil, Nat.reduceBEq, Bool.or_false, Bool.false_or, Bool.true_or, Bool.or_true, hf.f47], by simp only [go_sem, reduceIte, Nat.reduceEqDiff, Nat.reduceAdd, Nat.reduceMul, Nat.reduceSub, Int.reduceLE, Int.reduceLT, Int.reduceNe, Int.reduceToNat, Int.reducePow, Int.reduceAdd, Int.reduceMul, reduceCtorEq, true_and, and_true, cond_true, cond_false, List.map_cons, List.map_nil, Option.map_some, Option.map_none, List.getElem?_cons_zero, List.getElem?_cons_succ, ne_eq, not_false_eq_true, List.nil_append, List.append_nil, List.cons_append, List.contains_cons, List.contains_nil, Nat.reduceBEq, Bool.or_false, Bool.false_or, Bool.true_or, Bool.or_true, hf.f48]⟩ (by simp only [go_sem, reduceIte, Nat.reduceEqDiff, Nat.reduceAdd, Nat.reduceMul, Nat.reduceSub, Int.reduceLE, Int.reduceLT, Int.reduceNe, Int.reduceToNat, Int.reducePow, Int.reduceAdd, Int.reduceMul, reduceCtorEq, true_and, and_true, cond_true, cond_false, List.map_cons, List.map_nil, Option.map_some, Option.map_none, List.getElem?_cons_zero, List.getElem?_cons_succ, ne_eq, not_false_eq_true, List.nil_append, List.append_nil, List.cons_append, List.contains_cons, List.contains_nil, Nat.reduceBEq, Bool.or_false, Bool.false_or, Bool.true_or, Bool.or_true, h13]) t3
end Go.Proofs.Yteblojfcalgoeaa

/- Seat 1: TopKeyed: what is no name; the keys' loop. Conditions: none. -/
set_option linter.unusedVariables false
set_option linter.unusedSimpArgs false
namespace Go.Proofs.Yteblojfcalgoeaa
open Go Go.RowKit
set_option maxRecDepth 100000

theorem build_four {h : AH} {s t u v : List UInt8} : aBuildSlice E0 h 48 4 [(0, .str s), (1, .str t), (2, .str u), (3, .str v)] = some (.sl h.next 0 4 4 false, h.push (.cells [.str s, .str t, .str u, .str v] 9 .own)) := by kernel_rfl
theorem w_dec {i : Nat} (h0 : 0 < i) (hi : i ≤ 9223372036854775807) : IntKind.i64.wrap ((i : Int) - 1) = ((i - 1 : Nat) : Int) := by rw [wrap_i64 (by omega)]; omega
theorem keyE {n m : Nat} (hn : 10 ≤ n) (hm : 9223372036854775808 ≤ m) {h : AH} {fr : Nat → AV} {pv nv tv av kv : AV} {other key : List UInt8} {N i : Nat} (hf : F6 fr pv other nv tv av kv N i) (h13 : fr 13 = .str (nameB key)) (hok : objOK key = true) (hk6 : key.length ≤ 6)
    {Q : CR → Prop} (hQ : ∀ fr' h', F6 fr' pv other nv tv av kv N i → Keep h h' [] → Q (.go 0 fr' h')) :
    wCode E0 (aCall E0 sp0 100000 n) m lc6_38 fr h Q := by
  have h0 : key ≠ [] := fun e => by subst e; simp [objOK] at hok
  have hnl := name_len key
  have hxl := hexB_len key
  have e1 : aSlice E0 9 (.str (nameB key)) none (some (.int .i64 (2 * key.length : Nat))) none = some (.str ((nameB key).take (2 * key.length))) := by
    have e := slice_str (E := E0) (t := 9) (s := nameB key) (lo := none) (hi := some (.int .i64 (2 * key.length : Nat))) (a := 0) (b := 2 * key.length) str9 (.inl ⟨rfl, rfl⟩) (.inr ⟨_, rfl⟩) (by omega) (by omega)
    rw [List.drop_zero, Nat.sub_zero] at e
    exact e
  have e2 : ∀ t, aBin E0 .add t (.str (nameB key)) (.str [70, 48]) = some (.str (nameB key ++ [70, 48])) := fun t => bin_sadd (by simp; omega)
  have e3 : aSlice E0 9 (.str (nameB key)) (some (.int .i64 1)) none none = some (.str (hexB key)) := by
    have e := slice_str (E := E0) (t := 9) (s := nameB key) (lo := some (.int .i64 (1 : Nat))) (hi := none) (a := 1) (b := (nameB key).length) str9 (.inr ⟨_, rfl⟩) (.inl ⟨rfl, rfl⟩) (by omega) (Nat.le_refl _)
    rw [List.take_of_length_le (by simp)] at e
    exact e
  have e4 : ∀ t, aBin E0 .add t (.str [79]) (.str (hexB key)) = some (.str (79 :: hexB key)) := fun t => bin_sadd (by simp; omega)
  have hw : IntKind.i64.wrap (((nameB key).length : Int) - 1) = ((2 * key.length : Nat) : Int) := by rw [wrap_i64 (by omega)]; omega
  have hbad := bad_none h0
  have hbl : (badL key).length = 4 := rfl
  have hg : GS 1 (h.push (.cells [.str ((nameB key).take (2 * key.length)), .str (nameB key ++ [70, 48]), .str (hexB key), .str (79 :: hexB key)] 9 .own)) (.sl h.next 0 4 4 false) 4 (strs (badL key)) := (OwnA.own (h := h) (e := 9) (sz := 1) (n := 4) (cs := strs (badL key)) rfl rfl).gs
  have hbs : ∀ b ∈ badL key, b.length ≤ 9223372036854775807 := fun b hb => by
    simp only [badL, List.mem_cons, List.not_mem_nil, or_false] at hb
    rcases hb with rfl | rfl | rfl | rfl
    · have := List.length_take_le (2 * key.length) (nameB key); omega
    · simp; omega
    · omega
    · simp; omega
  have hle := len_gen sl48 hg
  have k0 : Keep h (h.push (.cells [.str ((nameB key).take (2 * key.length)), .str (nameB key ++ [70, 48]), .str (hexB key), .str (79 :: hexB key)] 9 .own)) [] := Keep.push h _
  simp only [w_lc6_38, go_sem, reduceIte, Nat.reduceEqDiff, Nat.reduceAdd, Nat.reduceMul, Nat.reduceSub, Int.reduceLE, Int.reduceLT, Int.reduceNe, Int.reduceToNat, Int.reducePow, Int.reduceAdd, Int.reduceMul, reduceCtorEq, true_and, and_true, cond_true, cond_false, List.map_cons, List.map_nil, Option.map_some, Option.map_none, List.getElem?_cons_zero, List.getElem?_cons_succ, ne_eq, not_false_eq_true, List.nil_append, List.append_nil, List.cons_append, List.contains_cons, List.contains_nil, Nat.reduceBEq, Bool.or_false, Bool.false_or, Bool.true_or, Bool.or_true, h13, hw, e1, e2, e3, e4, build_four, hle]
  generalize badL key = bl at *
  generalize h.push (.cells [.str ((nameB key).take (2 * key.length)), .str (nameB key ++ [70, 48]), .str (hexB key), .str (79 :: hexB key)] 9 .own) = h1 at *
  generalize hvb : AV.sl h.next 0 4 4 false = vb at *
  refine wLoop_inv (fun k fr h2 => ∃ j, k = 4 - j ∧ j ≤ 4 ∧ Keep h1 h2 [] ∧ F6 fr pv other nv tv av kv N i ∧ fr 181 = vb ∧ fr 182 = .int .i64 4 ∧ fr 183 = .int .i64 (j : Nat)) ?_ m 4 _ _ (by omega)
    ⟨0, rfl, by omega, Keep.refl h1, (by repeat (first | exact hf | refine F6.set ?_ (by decide))), by simp only [go_sem, reduceIte, Nat.reduceEqDiff, Nat.reduceAdd, Nat.reduceMul, Nat.reduceSub, Int.reduceLE, Int.reduceLT, Int.reduceNe, Int.reduceToNat, Int.reducePow, Int.reduceAdd, Int.reduceMul, reduceCtorEq, true_and, and_true, cond_true, cond_false, List.map_cons, List.map_nil, Option.map_some, Option.map_none, List.getElem?_cons_zero, List.getElem?_cons_succ, ne_eq, not_false_eq_true, List.nil_append, List.append_nil, List.cons_append, List.contains_cons, List.contains_nil, Nat.reduceBEq, Bool.or_false, Bool.false_or, Bool.true_or, Bool.or_true], by simp only [go_sem, reduceIte, Nat.reduceEqDiff, Nat.reduceAdd, Nat.reduceMul, Nat.reduceSub, Int.reduceLE, Int.reduceLT, Int.reduceNe, Int.reduceToNat, Int.reducePow, Int.reduceAdd, Int.reduceMul, reduceCtorEq, true_and, and_true, cond_true, cond_false, List.map_cons, List.map_nil, Option.map_some, Option.map_none, List.getElem?_cons_zero, List.getElem?_cons_succ, ne_eq, not_false_eq_true, List.nil_append, List.append_nil, List.cons_append, List.contains_cons, List.contains_nil, Nat.reduceBEq, Bool.or_false, Bool.false_or, Bool.true_or, Bool.or_true]; rfl, by simp only [go_sem, reduceIte, Nat.reduceEqDiff, Nat.reduceAdd, Nat.reduceMul, Nat.reduceSub, Int.reduceLE, Int.reduceLT, Int.reduceNe, Int.reduceToNat, Int.reducePow, Int.reduceAdd, Int.reduceMul, reduceCtorEq, true_and, and_true, cond_true, cond_false, List.map_cons, List.map_nil, Option.map_some, Option.map_none, List.getElem?_cons_zero, List.getElem?_cons_succ, ne_eq, not_false_eq_true, List.nil_append, List.append_nil, List.cons_append, List.contains_cons, List.contains_nil, Nat.reduceBEq, Bool.or_false, Bool.false_or, Bool.true_or, Bool.or_true]; rfl⟩
  rintro k fr h2 ⟨j, rfl, hj, hk, hf, f181, f182, f183⟩
  simp only [go_sem, reduceIte, Nat.reduceEqDiff, Nat.reduceAdd, Nat.reduceMul, Nat.reduceSub, Int.reduceLE, Int.reduceLT, Int.reduceNe, Int.reduceToNat, Int.reducePow, Int.reduceAdd, Int.reduceMul, reduceCtorEq, true_and, and_true, cond_true, cond_false, List.map_cons, List.map_nil, Option.map_some, Option.map_none, List.getElem?_cons_zero, List.getElem?_cons_succ, ne_eq, not_false_eq_true, List.nil_append, List.append_nil, List.cons_append, List.contains_cons, List.contains_nil, Nat.reduceBEq, Bool.or_false, Bool.false_or, Bool.true_or, Bool.or_true, f181, f182, f183]
  refine condK_intro (fun hc => ?_) (fun hc => ?_)
  case refine_2 =>
    simp only [go_sem, reduceIte, Nat.reduceEqDiff, Nat.reduceAdd, Nat.reduceMul, Nat.reduceSub, Int.reduceLE, Int.reduceLT, Int.reduceNe, Int.reduceToNat, Int.reducePow, Int.reduceAdd, Int.reduceMul, reduceCtorEq, true_and, and_true, cond_true, cond_false, List.map_cons, List.map_nil, Option.map_some, Option.map_none, List.getElem?_cons_zero, List.getElem?_cons_succ, ne_eq, not_false_eq_true, List.nil_append, List.append_nil, List.cons_append, List.contains_cons, List.contains_nil, Nat.reduceBEq, Bool.or_false, Bool.false_or, Bool.true_or, Bool.or_true]
    exact hQ _ _ (by repeat (first | exact hf | refine F6.set ?_ (by decide))) ((k0.trans hk).mono (by simp))
  case refine_1 =>
    have hc : j < 4 := by have := of_decide_eq_true hc; omega
    have hx : bl[j]? = some bl[j] := List.getElem?_eq_getElem (by omega)
    have hxm : bl[j] ∈ bl := List.getElem_mem _
    generalize bl[j] = b at hx hxm
    obtain ⟨b1, b2⟩ := hbad b hxm
    obtain ⟨p, i1, i2⟩ := index_load sl48 at9 (hg.keep hk (by simp)) (k := .i64) (strs_get hx)
    obtain ⟨_, c1, h3, rfl, k3⟩ := key_con b (hbs b hxm) h2 n (by omega)
    rw [b1] at c1
    simp only [Option.getD_none, Option.isSome_none] at c1
    obtain ⟨_, c2, h4, rfl, k4⟩ := kind_con b (hbs b hxm) h3 n (by omega)
    rw [b2] at c2
    have c2 : aCall E0 sp0 100000 n 60 [.str b] h3 = some (.ret (.int .i64 0) h4) := c2
    simp only [go_sem, reduceIte, Nat.reduceEqDiff, Nat.reduceAdd, Nat.reduceMul, Nat.reduceSub, Int.reduceLE, Int.reduceLT, Int.reduceNe, Int.reduceToNat, Int.reducePow, Int.reduceAdd, Int.reduceMul, reduceCtorEq, true_and, and_true, cond_true, cond_false, List.map_cons, List.map_nil, Option.map_some, Option.map_none, List.getElem?_cons_zero, List.getElem?_cons_succ, ne_eq, not_false_eq_true, List.nil_append, List.append_nil, List.cons_append, List.contains_cons, List.contains_nil, Nat.reduceBEq, Bool.or_false, Bool.false_or, Bool.true_or, Bool.or_true, f181, f182, f183, i1, i2, st_callf fs59, st_callf fs60, c1, c2, w_inc (show j ≤ 1000000000 by omega)]
    exact ⟨4 - (j + 1), by omega, j + 1, rfl, by omega, ((hk.trans k3).trans k4).mono (by simp), (by repeat (first | exact hf | refine F6.set ?_ (by decide))), rfl⟩
end Go.Proofs.Yteblojfcalgoeaa

/- Seat 1: TopKeyed: the keys' loop. Conditions: none. -/
set_option linter.unusedVariables false
set_option linter.unusedSimpArgs false
namespace Go.Proofs.Yteblojfcalgoeaa
open Go Go.RowKit
set_option maxRecDepth 100000

theorem sl92 : slT E0 92 24 1 24 = true := by kernel_rfl
theorem at24 : atomT E0 24 = true := by kernel_rfl
/-- Slices of bytes. -/
def KeyS (h : AH) (v : AV) (ks : List (List UInt8)) : Prop :=
  ∃ cs, GS 1 h v ks.length cs ∧ ∀ (j : Nat) (x : List UInt8), ks[j]? = some x → ∃ rv, cs[j]? = some rv ∧ BS h rv x
theorem BS.keep0 {h h' : AH} {v : AV} {x : List UInt8} (hb : BS h v x) (k : Keep h h' []) : BS h' v x := hb.keep k (by simp)
/-- The keys that count. -/
def tK (l : List (List UInt8)) : List (List UInt8) := (l.map (·.take 6)).filter fun s => !(s == [])
theorem tK_next {l : List (List UInt8)} {i : Nat} {x : List UInt8} (h : l[i]? = some x) : tK (l.take (i + 1)) = if x.take 6 = [] then tK (l.take i) else tK (l.take i) ++ [x.take 6] := by
  rw [take_succ_of h]
  unfold tK
  rw [List.map_append, List.filter_append]
  by_cases h0 : x.take 6 = []
  · rw [if_pos h0]
    have : (List.filter (fun s : List UInt8 => !(s == [])) (List.map (·.take 6) [x])) = [] := by simp [h0]
    rw [this, List.append_nil]
  · rw [if_neg h0]
    congr 1
    have e : (x.take 6 == []) = false := beq_false_of_ne h0
    simp only [List.map_cons, List.map_nil, List.filter, e, Bool.not_false]
theorem tK_ok (l : List (List UInt8)) : ∀ t ∈ tK l, objOK t = true ∧ t.length ≤ 6 := fun t ht => by
  unfold tK at ht
  rw [List.mem_filter] at ht
  obtain ⟨h1, h2⟩ := ht
  obtain ⟨x, _, rfl⟩ := List.mem_map.1 h1
  have hl : (x.take 6).length ≤ 6 := List.length_take_le 6 x
  have h0 : x.take 6 ≠ [] := fun e => by rw [e] at h2; simp at h2
  refine ⟨?_, hl⟩
  unfold objOK
  have h3 : (x.take 6 == []) = false := beq_false_of_ne h0
  rw [h3, decide_eq_true (show (x.take 6).length ≤ 255 by omega)]; rfl
theorem tK_len (l : List (List UInt8)) : (tK l).length ≤ l.length := by
  unfold tK
  have := List.length_filter_le (fun s : List UInt8 => !(s == [])) (l.map (·.take 6))
  simpa using this
theorem allK_len (l : List (List UInt8)) : (allK l).length = 3 * l.length := by
  induction l with
  | nil => rfl
  | cons a l ih => simp only [allK, List.flatMap_cons, List.length_append] at *; simp [ih]; omega
theorem allK_append (a b : List (List UInt8)) : allK (a ++ b) = allK a ++ allK b := by simp [allK]
@[go_sem] theorem min_12 (a : Nat) : (if (12 : Int) < (a : Int) then (12 : Int) else (a : Int)) = ((min a 12 : Nat) : Int) := min_nat a 12

theorem topKA {n m : Nat} (hn : 10 ≤ n) (hm : 9223372036854775808 ≤ m) {h : AH} {kv pv : AV} {other : List UInt8} {ks : List (List UInt8)} (hks : KeyS h kv ks)
    {Q : CR → Prop} (hQ : ∀ fr' h' tv av, fr' 1 = pv → fr' 2 = .str other → fr' 8 = tv → fr' 9 = av → (∃ nv, Three h h' nv tv av ((tK (ks.take 12)).map nameB) (tK (ks.take 12)) (allK (tK (ks.take 12)))) → wCode E0 (aCall E0 sp0 100000 n) m lc6_49 fr' h' Q) :
    wCode E0 (aCall E0 sp0 100000 n) m lc6 (frame0 [kv, pv, .str other]) h Q := by
  obtain ⟨cs, hg, hcs⟩ := hks
  obtain ⟨kv', e1, hg', hids⟩ := slice_gen sl92 hg (lo := none) (hi := some (.int .i64 (min ks.length 12 : Nat))) (a := 0) (b := min ks.length 12) (.inl ⟨rfl, rfl⟩) (.inr ⟨_, rfl⟩) (by omega) (by omega)
  have hll : (ks.take 12).length = min ks.length 12 := by rw [List.length_take, Nat.min_comm]
  have hl12 : (ks.take 12).length ≤ 12 := List.length_take_le 12 ks
  rw [Nat.sub_zero, ← hll] at hg'
  have hcs' : ∀ (j : Nat) (x : List UInt8), (ks.take 12)[j]? = some x → ∃ rv, ((cs.take (min ks.length 12 * 1)).drop (0 * 1))[j]? = some rv ∧ BS h rv x := fun j x hx => by
    have hj : j < min ks.length 12 := by rw [← hll]; exact (List.getElem?_eq_some_iff.1 hx).1
    rw [List.getElem?_take, if_pos (by omega)] at hx
    obtain ⟨rv, h1, h2⟩ := hcs j x hx
    refine ⟨rv, ?_, h2⟩
    simp only [Nat.mul_one, Nat.zero_mul, List.drop_zero]
    rw [List.getElem?_take, if_pos hj]
    exact h1
  rw [hll] at hg'
  generalize (cs.take (min ks.length 12 * 1)).drop (0 * 1) = cs' at hg' hcs'
  have hlen' : qBuiltin E0 h .len [kv'] [92] = some (.int .i64 ((min ks.length 12 : Nat) : Int)) := len_gen sl92 hg'
  simp only [go_sem, reduceIte, Nat.reduceEqDiff, Nat.reduceAdd, Nat.reduceMul, Nat.reduceSub, Int.reduceLE, Int.reduceLT, Int.reduceNe, Int.reduceToNat, Int.reducePow, Int.reduceAdd, Int.reduceMul, reduceCtorEq, true_and, and_true, cond_true, cond_false, List.map_cons, List.map_nil, Option.map_some, Option.map_none, List.getElem?_cons_zero, List.getElem?_cons_succ, ne_eq, not_false_eq_true, List.nil_append, List.append_nil, List.cons_append, List.contains_cons, List.contains_nil, Nat.reduceBEq, Bool.or_false, Bool.false_or, Bool.true_or, Bool.or_true, len_gen sl92 hg, e1, hlen']
  generalize ks.take 12 = l at *
  rw [← hll]
  rw [← hll] at hg'
  refine wLoop_inv (fun k fr h1 => ∃ i nv tv av, k = l.length - i ∧ i ≤ l.length ∧ F6 fr pv other nv tv av kv' l.length i ∧ Three h h1 nv tv av ((tK (l.take i)).map nameB) (tK (l.take i)) (allK (tK (l.take i)))) ?_ m l.length _ _ (by omega)
    ⟨0, .nils, .nils, .nils, rfl, by omega, ⟨by simp only [go_sem, reduceIte, Nat.reduceEqDiff, Nat.reduceAdd, Nat.reduceMul, Nat.reduceSub, Int.reduceLE, Int.reduceLT, Int.reduceNe, Int.reduceToNat, Int.reducePow, Int.reduceAdd, Int.reduceMul, reduceCtorEq, true_and, and_true, cond_true, cond_false, List.map_cons, List.map_nil, Option.map_some, Option.map_none, List.getElem?_cons_zero, List.getElem?_cons_succ, ne_eq, not_false_eq_true, List.nil_append, List.append_nil, List.cons_append, List.contains_cons, List.contains_nil, Nat.reduceBEq, Bool.or_false, Bool.false_or, Bool.true_or, Bool.or_true], by simp only [go_sem, reduceIte, Nat.reduceEqDiff, Nat.reduceAdd, Nat.reduceMul, Nat.reduceSub, Int.reduceLE, Int.reduceLT, Int.reduceNe, Int.reduceToNat, Int.reducePow, Int.reduceAdd, Int.reduceMul, reduceCtorEq, true_and, and_true, cond_true, cond_false, List.map_cons, List.map_nil, Option.map_some, Option.map_none, List.getElem?_cons_zero, List.getElem?_cons_succ, ne_eq, not_false_eq_true, List.nil_append, List.append_nil, List.cons_append, List.contains_cons, List.contains_nil, Nat.reduceBEq, Bool.or_false, Bool.false_or, Bool.true_or, Bool.or_true], by simp only [go_sem, reduceIte, Nat.reduceEqDiff, Nat.reduceAdd, Nat.reduceMul, Nat.reduceSub, Int.reduceLE, Int.reduceLT, Int.reduceNe, Int.reduceToNat, Int.reducePow, Int.reduceAdd, Int.reduceMul, reduceCtorEq, true_and, and_true, cond_true, cond_false, List.map_cons, List.map_nil, Option.map_some, Option.map_none, List.getElem?_cons_zero, List.getElem?_cons_succ, ne_eq, not_false_eq_true, List.nil_append, List.append_nil, List.cons_append, List.contains_cons, List.contains_nil, Nat.reduceBEq, Bool.or_false, Bool.false_or, Bool.true_or, Bool.or_true], by simp only [go_sem, reduceIte, Nat.reduceEqDiff, Nat.reduceAdd, Nat.reduceMul, Nat.reduceSub, Int.reduceLE, Int.reduceLT, Int.reduceNe, Int.reduceToNat, Int.reducePow, Int.reduceAdd, Int.reduceMul, reduceCtorEq, true_and, and_true, cond_true, cond_false, List.map_cons, List.map_nil, Option.map_some, Option.map_none, List.getElem?_cons_zero, List.getElem?_cons_succ, ne_eq, not_false_eq_true, List.nil_append, List.append_nil, List.cons_append, List.contains_cons, List.contains_nil, Nat.reduceBEq, Bool.or_false, Bool.false_or, Bool.true_or, Bool.or_true], by simp only [go_sem, reduceIte, Nat.reduceEqDiff, Nat.reduceAdd, Nat.reduceMul, Nat.reduceSub, Int.reduceLE, Int.reduceLT, Int.reduceNe, Int.reduceToNat, Int.reducePow, Int.reduceAdd, Int.reduceMul, reduceCtorEq, true_and, and_true, cond_true, cond_false, List.map_cons, List.map_nil, Option.map_some, Option.map_none, List.getElem?_cons_zero, List.getElem?_cons_succ, ne_eq, not_false_eq_true, List.nil_append, List.append_nil, List.cons_append, List.contains_cons, List.contains_nil, Nat.reduceBEq, Bool.or_false, Bool.false_or, Bool.true_or, Bool.or_true], by simp only [go_sem, reduceIte, Nat.reduceEqDiff, Nat.reduceAdd, Nat.reduceMul, Nat.reduceSub, Int.reduceLE, Int.reduceLT, Int.reduceNe, Int.reduceToNat, Int.reducePow, Int.reduceAdd, Int.reduceMul, reduceCtorEq, true_and, and_true, cond_true, cond_false, List.map_cons, List.map_nil, Option.map_some, Option.map_none, List.getElem?_cons_zero, List.getElem?_cons_succ, ne_eq, not_false_eq_true, List.nil_append, List.append_nil, List.cons_append, List.contains_cons, List.contains_nil, Nat.reduceBEq, Bool.or_false, Bool.false_or, Bool.true_or, Bool.or_true], by simp only [go_sem, reduceIte, Nat.reduceEqDiff, Nat.reduceAdd, Nat.reduceMul, Nat.reduceSub, Int.reduceLE, Int.reduceLT, Int.reduceNe, Int.reduceToNat, Int.reducePow, Int.reduceAdd, Int.reduceMul, reduceCtorEq, true_and, and_true, cond_true, cond_false, List.map_cons, List.map_nil, Option.map_some, Option.map_none, List.getElem?_cons_zero, List.getElem?_cons_succ, ne_eq, not_false_eq_true, List.nil_append, List.append_nil, List.cons_append, List.contains_cons, List.contains_nil, Nat.reduceBEq, Bool.or_false, Bool.false_or, Bool.true_or, Bool.or_true], by simp only [go_sem, reduceIte, Nat.reduceEqDiff, Nat.reduceAdd, Nat.reduceMul, Nat.reduceSub, Int.reduceLE, Int.reduceLT, Int.reduceNe, Int.reduceToNat, Int.reducePow, Int.reduceAdd, Int.reduceMul, reduceCtorEq, true_and, and_true, cond_true, cond_false, List.map_cons, List.map_nil, Option.map_some, Option.map_none, List.getElem?_cons_zero, List.getElem?_cons_succ, ne_eq, not_false_eq_true, List.nil_append, List.append_nil, List.cons_append, List.contains_cons, List.contains_nil, Nat.reduceBEq, Bool.or_false, Bool.false_or, Bool.true_or, Bool.or_true]; rfl⟩, ⟨OwnA.nil, OwnA.nil, OwnA.nil, by simp [ids], by simp [ids], by simp [ids], by simp [ids], by simp [ids], by simp [ids], Keep.refl h⟩⟩
  rintro k fr h1 ⟨i, nv, tv, av, rfl, hi, hf, ht⟩
  simp only [go_sem, reduceIte, Nat.reduceEqDiff, Nat.reduceAdd, Nat.reduceMul, Nat.reduceSub, Int.reduceLE, Int.reduceLT, Int.reduceNe, Int.reduceToNat, Int.reducePow, Int.reduceAdd, Int.reduceMul, reduceCtorEq, true_and, and_true, cond_true, cond_false, List.map_cons, List.map_nil, Option.map_some, Option.map_none, List.getElem?_cons_zero, List.getElem?_cons_succ, ne_eq, not_false_eq_true, List.nil_append, List.append_nil, List.cons_append, List.contains_cons, List.contains_nil, Nat.reduceBEq, Bool.or_false, Bool.false_or, Bool.true_or, Bool.or_true, hf.f47, hf.f48]
  refine condK_intro (fun hc => ?_) (fun hc => ?_)
  case refine_2 =>
    have hc : i = l.length := by have := of_decide_eq_false hc; omega
    subst hc
    rw [List.take_length] at ht
    simp only [go_sem, reduceIte, Nat.reduceEqDiff, Nat.reduceAdd, Nat.reduceMul, Nat.reduceSub, Int.reduceLE, Int.reduceLT, Int.reduceNe, Int.reduceToNat, Int.reducePow, Int.reduceAdd, Int.reduceMul, reduceCtorEq, true_and, and_true, cond_true, cond_false, List.map_cons, List.map_nil, Option.map_some, Option.map_none, List.getElem?_cons_zero, List.getElem?_cons_succ, ne_eq, not_false_eq_true, List.nil_append, List.append_nil, List.cons_append, List.contains_cons, List.contains_nil, Nat.reduceBEq, Bool.or_false, Bool.false_or, Bool.true_or, Bool.or_true]
    exact hQ _ _ tv av (by simp only [go_sem, reduceIte, Nat.reduceEqDiff, Nat.reduceAdd, Nat.reduceMul, Nat.reduceSub, Int.reduceLE, Int.reduceLT, Int.reduceNe, Int.reduceToNat, Int.reducePow, Int.reduceAdd, Int.reduceMul, reduceCtorEq, true_and, and_true, cond_true, cond_false, List.map_cons, List.map_nil, Option.map_some, Option.map_none, List.getElem?_cons_zero, List.getElem?_cons_succ, ne_eq, not_false_eq_true, List.nil_append, List.append_nil, List.cons_append, List.contains_cons, List.contains_nil, Nat.reduceBEq, Bool.or_false, Bool.false_or, Bool.true_or, Bool.or_true, hf.f1]) (by simp only [go_sem, reduceIte, Nat.reduceEqDiff, Nat.reduceAdd, Nat.reduceMul, Nat.reduceSub, Int.reduceLE, Int.reduceLT, Int.reduceNe, Int.reduceToNat, Int.reducePow, Int.reduceAdd, Int.reduceMul, reduceCtorEq, true_and, and_true, cond_true, cond_false, List.map_cons, List.map_nil, Option.map_some, Option.map_none, List.getElem?_cons_zero, List.getElem?_cons_succ, ne_eq, not_false_eq_true, List.nil_append, List.append_nil, List.cons_append, List.contains_cons, List.contains_nil, Nat.reduceBEq, Bool.or_false, Bool.false_or, Bool.true_or, Bool.or_true, hf.f2]) (by simp only [go_sem, reduceIte, Nat.reduceEqDiff, Nat.reduceAdd, Nat.reduceMul, Nat.reduceSub, Int.reduceLE, Int.reduceLT, Int.reduceNe, Int.reduceToNat, Int.reducePow, Int.reduceAdd, Int.reduceMul, reduceCtorEq, true_and, and_true, cond_true, cond_false, List.map_cons, List.map_nil, Option.map_some, Option.map_none, List.getElem?_cons_zero, List.getElem?_cons_succ, ne_eq, not_false_eq_true, List.nil_append, List.append_nil, List.cons_append, List.contains_cons, List.contains_nil, Nat.reduceBEq, Bool.or_false, Bool.false_or, Bool.true_or, Bool.or_true, hf.f8]) (by simp only [go_sem, reduceIte, Nat.reduceEqDiff, Nat.reduceAdd, Nat.reduceMul, Nat.reduceSub, Int.reduceLE, Int.reduceLT, Int.reduceNe, Int.reduceToNat, Int.reducePow, Int.reduceAdd, Int.reduceMul, reduceCtorEq, true_and, and_true, cond_true, cond_false, List.map_cons, List.map_nil, Option.map_some, Option.map_none, List.getElem?_cons_zero, List.getElem?_cons_succ, ne_eq, not_false_eq_true, List.nil_append, List.append_nil, List.cons_append, List.contains_cons, List.contains_nil, Nat.reduceBEq, Bool.or_false, Bool.false_or, Bool.true_or, Bool.or_true, hf.f9]) ⟨nv, ht⟩
  case refine_1 =>
    have hc : i < l.length := by have := of_decide_eq_true hc; omega
    have hx : l[i]? = some l[i] := List.getElem?_eq_getElem hc
    generalize l[i] = x at hx
    obtain ⟨rv, hr1, hr2⟩ := hcs' i x hx
    obtain ⟨p, i1, i2⟩ := index_load sl92 at24 (hg'.keep ht.keep (by simp)) (k := .i64) hr1
    have hnx := tK_next hx
    have htl := tK_len (l.take i)
    have htl2 : (l.take i).length ≤ 12 := by rw [List.length_take]; omega
    have hal := allK_len (tK (l.take i))
    simp only [go_sem, reduceIte, Nat.reduceEqDiff, Nat.reduceAdd, Nat.reduceMul, Nat.reduceSub, Int.reduceLE, Int.reduceLT, Int.reduceNe, Int.reduceToNat, Int.reducePow, Int.reduceAdd, Int.reduceMul, reduceCtorEq, true_and, and_true, cond_true, cond_false, List.map_cons, List.map_nil, Option.map_some, Option.map_none, List.getElem?_cons_zero, List.getElem?_cons_succ, ne_eq, not_false_eq_true, List.nil_append, List.append_nil, List.cons_append, List.contains_cons, List.contains_nil, Nat.reduceBEq, Bool.or_false, Bool.false_or, Bool.true_or, Bool.or_true, hf.f46, hf.f47, hf.f48, i1, i2]
    refine keyA hm (show F6 _ pv other nv tv av kv' l.length i from by repeat (first | exact hf | refine F6.set ?_ (by decide))) (h11 := by simp only [go_sem, reduceIte, Nat.reduceEqDiff, Nat.reduceAdd, Nat.reduceMul, Nat.reduceSub, Int.reduceLE, Int.reduceLT, Int.reduceNe, Int.reduceToNat, Int.reducePow, Int.reduceAdd, Int.reduceMul, reduceCtorEq, true_and, and_true, cond_true, cond_false, List.map_cons, List.map_nil, Option.map_some, Option.map_none, List.getElem?_cons_zero, List.getElem?_cons_succ, ne_eq, not_false_eq_true, List.nil_append, List.append_nil, List.cons_append, List.contains_cons, List.contains_nil, Nat.reduceBEq, Bool.or_false, Bool.false_or, Bool.true_or, Bool.or_true]) (hr2.keep0 ht.keep) fun fr2 hf2 a12 a13 => ?_
    have hk6 : (x.take 6).length ≤ 6 := List.length_take_le 6 x
    refine keyB hn hf2 a12 a13 hk6 (fun h0 fr3 h3 hf3 k3 => ?_) (fun hok fr3 h3 hf3 b12 b13 k3 => ?_)
    · have t3 := ht.same k3
      rw [if_pos h0] at hnx
      simp only [go_sem, reduceIte, Nat.reduceEqDiff, Nat.reduceAdd, Nat.reduceMul, Nat.reduceSub, Int.reduceLE, Int.reduceLT, Int.reduceNe, Int.reduceToNat, Int.reducePow, Int.reduceAdd, Int.reduceMul, reduceCtorEq, true_and, and_true, cond_true, cond_false, List.map_cons, List.map_nil, Option.map_some, Option.map_none, List.getElem?_cons_zero, List.getElem?_cons_succ, ne_eq, not_false_eq_true, List.nil_append, List.append_nil, List.cons_append, List.contains_cons, List.contains_nil, Nat.reduceBEq, Bool.or_false, Bool.false_or, Bool.true_or, Bool.or_true, hf3.f48, w_inc (show i ≤ 1000000000 by omega)]
      refine ⟨l.length - (i + 1), by omega, i + 1, nv, tv, av, rfl, by omega, ⟨by simp only [go_sem, reduceIte, Nat.reduceEqDiff, Nat.reduceAdd, Nat.reduceMul, Nat.reduceSub, Int.reduceLE, Int.reduceLT, Int.reduceNe, Int.reduceToNat, Int.reducePow, Int.reduceAdd, Int.reduceMul, reduceCtorEq, true_and, and_true, cond_true, cond_false, List.map_cons, List.map_nil, Option.map_some, Option.map_none, List.getElem?_cons_zero, List.getElem?_cons_succ, ne_eq, not_false_eq_true, List.nil_append, List.append_nil, List.cons_append, List.contains_cons, List.contains_nil, Nat.reduceBEq, Bool.or_false, Bool.false_or, Bool.true_or, Bool.or_true, hf3.f1], by simp only [go_sem, reduceIte, Nat.reduceEqDiff, Nat.reduceAdd, Nat.reduceMul, Nat.reduceSub, Int.reduceLE, Int.reduceLT, Int.reduceNe, Int.reduceToNat, Int.reducePow, Int.reduceAdd, Int.reduceMul, reduceCtorEq, true_and, and_true, cond_true, cond_false, List.map_cons, List.map_nil, Option.map_some, Option.map_none, List.getElem?_cons_zero, List.getElem?_cons_succ, ne_eq, not_false_eq_true, List.nil_append, List.append_nil, List.cons_append, List.contains_cons, List.contains_nil, Nat.reduceBEq, Bool.or_false, Bool.false_or, Bool.true_or, Bool.or_true, hf3.f2], by simp only [go_sem, reduceIte, Nat.reduceEqDiff, Nat.reduceAdd, Nat.reduceMul, Nat.reduceSub, Int.reduceLE, Int.reduceLT, Int.reduceNe, Int.reduceToNat, Int.reducePow, Int.reduceAdd, Int.reduceMul, reduceCtorEq, true_and, and_true, cond_true, cond_false, List.map_cons, List.map_nil, Option.map_some, Option.map_none, List.getElem?_cons_zero, List.getElem?_cons_succ, ne_eq, not_false_eq_true, List.nil_append, List.append_nil, List.cons_append, List.contains_cons, List.contains_nil, Nat.reduceBEq, Bool.or_false, Bool.false_or, Bool.true_or, Bool.or_true, hf3.f7], by simp only [go_sem, reduceIte, Nat.reduceEqDiff, Nat.reduceAdd, Nat.reduceMul, Nat.reduceSub, Int.reduceLE, Int.reduceLT, Int.reduceNe, Int.reduceToNat, Int.reducePow, Int.reduceAdd, Int.reduceMul, reduceCtorEq, true_and, and_true, cond_true, cond_false, List.map_cons, List.map_nil, Option.map_some, Option.map_none, List.getElem?_cons_zero, List.getElem?_cons_succ, ne_eq, not_false_eq_true, List.nil_append, List.append_nil, List.cons_append, List.contains_cons, List.contains_nil, Nat.reduceBEq, Bool.or_false, Bool.false_or, Bool.true_or, Bool.or_true, hf3.f8], by simp only [go_sem, reduceIte, Nat.reduceEqDiff, Nat.reduceAdd, Nat.reduceMul, Nat.reduceSub, Int.reduceLE, Int.reduceLT, Int.reduceNe, Int.reduceToNat, Int.reducePow, Int.reduceAdd, Int.reduceMul, reduceCtorEq, true_and, and_true, cond_true, cond_false, List.map_cons, List.map_nil, Option.map_some, Option.map_none, List.getElem?_cons_zero, List.getElem?_cons_succ, ne_eq, not_false_eq_true, List.nil_append, List.append_nil, List.cons_append, List.contains_cons, List.contains_nil, Nat.reduceBEq, Bool.or_false, Bool.false_or, Bool.true_or, Bool.or_true, hf3.f9], by simp only [go_sem, reduceIte, Nat.reduceEqDiff, Nat.reduceAdd, Nat.reduceMul, Nat.reduceSub, Int.reduceLE, Int.reduceLT, Int.reduceNe, Int.reduceToNat, Int.reducePow, Int.reduceAdd, Int.reduceMul, reduceCtorEq, true_and, and_true, cond_true, cond_false, List.map_cons, List.map_nil, Option.map_some, Option.map_none, List.getElem?_cons_zero, List.getElem?_cons_succ, ne_eq, not_false_eq_true, List.nil_append, List.append_nil, List.cons_append, List.contains_cons, List.contains_nil, Nat.reduceBEq, Bool.or_false, Bool.false_or, Bool.true_or, Bool.or_true, hf3.f46], by simp only [go_sem, reduceIte, Nat.reduceEqDiff, Nat.reduceAdd, Nat.reduceMul, Nat.reduceSub, Int.reduceLE, Int.reduceLT, Int.reduceNe, Int.reduceToNat, Int.reducePow, Int.reduceAdd, Int.reduceMul, reduceCtorEq, true_and, and_true, cond_true, cond_false, List.map_cons, List.map_nil, Option.map_some, Option.map_none, List.getElem?_cons_zero, List.getElem?_cons_succ, ne_eq, not_false_eq_true, List.nil_append, List.append_nil, List.cons_append, List.contains_cons, List.contains_nil, Nat.reduceBEq, Bool.or_false, Bool.false_or, Bool.true_or, Bool.or_true, hf3.f47], by simp only [go_sem, reduceIte, Nat.reduceEqDiff, Nat.reduceAdd, Nat.reduceMul, Nat.reduceSub, Int.reduceLE, Int.reduceLT, Int.reduceNe, Int.reduceToNat, Int.reducePow, Int.reduceAdd, Int.reduceMul, reduceCtorEq, true_and, and_true, cond_true, cond_false, List.map_cons, List.map_nil, Option.map_some, Option.map_none, List.getElem?_cons_zero, List.getElem?_cons_succ, ne_eq, not_false_eq_true, List.nil_append, List.append_nil, List.cons_append, List.contains_cons, List.contains_nil, Nat.reduceBEq, Bool.or_false, Bool.false_or, Bool.true_or, Bool.or_true]⟩, by rw [hnx]; exact t3⟩
    · have h0 : x.take 6 ≠ [] := fun e => by rw [e] at hok; simp [objOK] at hok
      have t3 := ht.same k3
      rw [if_neg h0] at hnx
      refine keyC hm hf3 b12 b13 t3.ob.gs (by simpa using t3.oa.gs) (by omega) fun fr4 hf4 d12 d13 => ?_
      refine keyD hf4 d13 d12 t3 (by simp; omega) (by omega) (by omega) fun fr5 h5 nv' tv' av' hf5 g13 t5 => ?_
      refine keyE hn hm hf5 g13 hok hk6 fun fr6 h6 hf6 k6 => ?_
      have t6 := t5.same k6
      simp only [go_sem, reduceIte, Nat.reduceEqDiff, Nat.reduceAdd, Nat.reduceMul, Nat.reduceSub, Int.reduceLE, Int.reduceLT, Int.reduceNe, Int.reduceToNat, Int.reducePow, Int.reduceAdd, Int.reduceMul, reduceCtorEq, true_and, and_true, cond_true, cond_false, List.map_cons, List.map_nil, Option.map_some, Option.map_none, List.getElem?_cons_zero, List.getElem?_cons_succ, ne_eq, not_false_eq_true, List.nil_append, List.append_nil, List.cons_append, List.contains_cons, List.contains_nil, Nat.reduceBEq, Bool.or_false, Bool.false_or, Bool.true_or, Bool.or_true, hf6.f48, w_inc (show i ≤ 1000000000 by omega)]
      refine ⟨l.length - (i + 1), by omega, i + 1, nv', tv', av', rfl, by omega, ⟨by simp only [go_sem, reduceIte, Nat.reduceEqDiff, Nat.reduceAdd, Nat.reduceMul, Nat.reduceSub, Int.reduceLE, Int.reduceLT, Int.reduceNe, Int.reduceToNat, Int.reducePow, Int.reduceAdd, Int.reduceMul, reduceCtorEq, true_and, and_true, cond_true, cond_false, List.map_cons, List.map_nil, Option.map_some, Option.map_none, List.getElem?_cons_zero, List.getElem?_cons_succ, ne_eq, not_false_eq_true, List.nil_append, List.append_nil, List.cons_append, List.contains_cons, List.contains_nil, Nat.reduceBEq, Bool.or_false, Bool.false_or, Bool.true_or, Bool.or_true, hf6.f1], by simp only [go_sem, reduceIte, Nat.reduceEqDiff, Nat.reduceAdd, Nat.reduceMul, Nat.reduceSub, Int.reduceLE, Int.reduceLT, Int.reduceNe, Int.reduceToNat, Int.reducePow, Int.reduceAdd, Int.reduceMul, reduceCtorEq, true_and, and_true, cond_true, cond_false, List.map_cons, List.map_nil, Option.map_some, Option.map_none, List.getElem?_cons_zero, List.getElem?_cons_succ, ne_eq, not_false_eq_true, List.nil_append, List.append_nil, List.cons_append, List.contains_cons, List.contains_nil, Nat.reduceBEq, Bool.or_false, Bool.false_or, Bool.true_or, Bool.or_true, hf6.f2], by simp only [go_sem, reduceIte, Nat.reduceEqDiff, Nat.reduceAdd, Nat.reduceMul, Nat.reduceSub, Int.reduceLE, Int.reduceLT, Int.reduceNe, Int.reduceToNat, Int.reducePow, Int.reduceAdd, Int.reduceMul, reduceCtorEq, true_and, and_true, cond_true, cond_false, List.map_cons, List.map_nil, Option.map_some, Option.map_none, List.getElem?_cons_zero, List.getElem?_cons_succ, ne_eq, not_false_eq_true, List.nil_append, List.append_nil, List.cons_append, List.contains_cons, List.contains_nil, Nat.reduceBEq, Bool.or_false, Bool.false_or, Bool.true_or, Bool.or_true, hf6.f7], by simp only [go_sem, reduceIte, Nat.reduceEqDiff, Nat.reduceAdd, Nat.reduceMul, Nat.reduceSub, Int.reduceLE, Int.reduceLT, Int.reduceNe, Int.reduceToNat, Int.reducePow, Int.reduceAdd, Int.reduceMul, reduceCtorEq, true_and, and_true, cond_true, cond_false, List.map_cons, List.map_nil, Option.map_some, Option.map_none, List.getElem?_cons_zero, List.getElem?_cons_succ, ne_eq, not_false_eq_true, List.nil_append, List.append_nil, List.cons_append, List.contains_cons, List.contains_nil, Nat.reduceBEq, Bool.or_false, Bool.false_or, Bool.true_or, Bool.or_true, hf6.f8], by simp only [go_sem, reduceIte, Nat.reduceEqDiff, Nat.reduceAdd, Nat.reduceMul, Nat.reduceSub, Int.reduceLE, Int.reduceLT, Int.reduceNe, Int.reduceToNat, Int.reducePow, Int.reduceAdd, Int.reduceMul, reduceCtorEq, true_and, and_true, cond_true, cond_false, List.map_cons, List.map_nil, Option.map_some, Option.map_none, List.getElem?_cons_zero, List.getElem?_cons_succ, ne_eq, not_false_eq_true, List.nil_append, List.append_nil, List.cons_append, List.contains_cons, List.contains_nil, Nat.reduceBEq, Bool.or_false, Bool.false_or, Bool.true_or, Bool.or_true, hf6.f9], by simp only [go_sem, reduceIte, Nat.reduceEqDiff, Nat.reduceAdd, Nat.reduceMul, Nat.reduceSub, Int.reduceLE, Int.reduceLT, Int.reduceNe, Int.reduceToNat, Int.reducePow, Int.reduceAdd, Int.reduceMul, reduceCtorEq, true_and, and_true, cond_true, cond_false, List.map_cons, List.map_nil, Option.map_some, Option.map_none, List.getElem?_cons_zero, List.getElem?_cons_succ, ne_eq, not_false_eq_true, List.nil_append, List.append_nil, List.cons_append, List.contains_cons, List.contains_nil, Nat.reduceBEq, Bool.or_false, Bool.false_or, Bool.true_or, Bool.or_true, hf6.f46], by simp only [go_sem, reduceIte, Nat.reduceEqDiff, Nat.reduceAdd, Nat.reduceMul, Nat.reduceSub, Int.reduceLE, Int.reduceLT, Int.reduceNe, Int.reduceToNat, Int.reducePow, Int.reduceAdd, Int.reduceMul, reduceCtorEq, true_and, and_true, cond_true, cond_false, List.map_cons, List.map_nil, Option.map_some, Option.map_none, List.getElem?_cons_zero, List.getElem?_cons_succ, ne_eq, not_false_eq_true, List.nil_append, List.append_nil, List.cons_append, List.contains_cons, List.contains_nil, Nat.reduceBEq, Bool.or_false, Bool.false_or, Bool.true_or, Bool.or_true, hf6.f47], by simp only [go_sem, reduceIte, Nat.reduceEqDiff, Nat.reduceAdd, Nat.reduceMul, Nat.reduceSub, Int.reduceLE, Int.reduceLT, Int.reduceNe, Int.reduceToNat, Int.reducePow, Int.reduceAdd, Int.reduceMul, reduceCtorEq, true_and, and_true, cond_true, cond_false, List.map_cons, List.map_nil, Option.map_some, Option.map_none, List.getElem?_cons_zero, List.getElem?_cons_succ, ne_eq, not_false_eq_true, List.nil_append, List.append_nil, List.cons_append, List.contains_cons, List.contains_nil, Nat.reduceBEq, Bool.or_false, Bool.false_or, Bool.true_or, Bool.or_true]⟩, ?_⟩
      rw [hnx, List.map_append, allK_append]
      exact t6
end Go.Proofs.Yteblojfcalgoeaa

/- Seat 1: TopKeyed: a long key; of which kind a text is. Conditions: none. -/
set_option linter.unusedVariables false
set_option linter.unusedSimpArgs false
namespace Go.Proofs.Yteblojfcalgoeaa
open Go Go.RowKit
set_option maxRecDepth 100000

/-- What stays behind the keys' loop. -/
structure G6 (fr : Nat → AV) (pv : AV) (other : List UInt8) (tv av : AV) : Prop where
  f1 : fr 1 = pv
  f2 : fr 2 = .str other
  f8 : fr 8 = tv
  f9 : fr 9 = av
theorem G6.set {fr : Nat → AV} {pv : AV} {other : List UInt8} {tv av : AV} (hf : G6 fr pv other tv av) {t : Nat} {v : AV} (ht : t ≠ 1 ∧ t ≠ 2 ∧ t ≠ 8 ∧ t ≠ 9) : G6 (setF fr (some t) v) pv other tv av := by
  obtain ⟨t1, t2, t8, t9⟩ := ht
  have g : ∀ u, t ≠ u → setF fr (some t) v u = fr u := fun u hu => by rw [setF_some, if_neg (Ne.symm hu)]
  exact ⟨(g 1 t1).trans hf.f1, (g 2 t2).trans hf.f2, (g 8 t8).trans hf.f8, (g 9 t9).trans hf.f9⟩

theorem topKB {n m : Nat} (hn : 10 ≤ n) (hm : 9223372036854775808 ≤ m) {h : AH} {fr : Nat → AV} {pv tv av : AV} {other : List UInt8} (hf : G6 fr pv other tv av)
    {Q : CR → Prop} (hQ : ∀ fr' h', G6 fr' pv other tv av → Keep h h' [] → wCode E0 (aCall E0 sp0 100000 n) m lc6_64 fr' h' Q) :
    wCode E0 (aCall E0 sp0 100000 n) m lc6_49 fr h Q := by
  simp only [w_lc6_49, go_sem, reduceIte, Nat.reduceEqDiff, Nat.reduceAdd, Nat.reduceMul, Nat.reduceSub, Int.reduceLE, Int.reduceLT, Int.reduceNe, Int.reduceToNat, Int.reducePow, Int.reduceAdd, Int.reduceMul, reduceCtorEq, true_and, and_true, cond_true, cond_false, List.map_cons, List.map_nil, Option.map_some, Option.map_none, List.getElem?_cons_zero, List.getElem?_cons_succ, ne_eq, not_false_eq_true, List.nil_append, List.append_nil, List.cons_append, List.contains_cons, List.contains_nil, Nat.reduceBEq, Bool.or_false, Bool.false_or, Bool.true_or, Bool.or_true]
  refine wLoop_inv (fun k fr h1 => ∃ j, k = 256 - j ∧ j ≤ 256 ∧ h1 = h ∧ G6 fr pv other tv av ∧ fr 25 = .str (List.replicate j 107) ∧ fr 200 = .int .i64 (j : Nat)) ?_ m 256 _ _ (by omega)
    ⟨0, rfl, by omega, rfl, (by repeat (first | exact hf | refine G6.set ?_ (by decide))), by simp only [go_sem, reduceIte, Nat.reduceEqDiff, Nat.reduceAdd, Nat.reduceMul, Nat.reduceSub, Int.reduceLE, Int.reduceLT, Int.reduceNe, Int.reduceToNat, Int.reducePow, Int.reduceAdd, Int.reduceMul, reduceCtorEq, true_and, and_true, cond_true, cond_false, List.map_cons, List.map_nil, Option.map_some, Option.map_none, List.getElem?_cons_zero, List.getElem?_cons_succ, ne_eq, not_false_eq_true, List.nil_append, List.append_nil, List.cons_append, List.contains_cons, List.contains_nil, Nat.reduceBEq, Bool.or_false, Bool.false_or, Bool.true_or, Bool.or_true]; rfl, by simp only [go_sem, reduceIte, Nat.reduceEqDiff, Nat.reduceAdd, Nat.reduceMul, Nat.reduceSub, Int.reduceLE, Int.reduceLT, Int.reduceNe, Int.reduceToNat, Int.reducePow, Int.reduceAdd, Int.reduceMul, reduceCtorEq, true_and, and_true, cond_true, cond_false, List.map_cons, List.map_nil, Option.map_some, Option.map_none, List.getElem?_cons_zero, List.getElem?_cons_succ, ne_eq, not_false_eq_true, List.nil_append, List.append_nil, List.cons_append, List.contains_cons, List.contains_nil, Nat.reduceBEq, Bool.or_false, Bool.false_or, Bool.true_or, Bool.or_true]; rfl⟩
  rintro k fr hh ⟨j, rfl, hj, rfl, hf, f25, f200⟩
  simp only [go_sem, reduceIte, Nat.reduceEqDiff, Nat.reduceAdd, Nat.reduceMul, Nat.reduceSub, Int.reduceLE, Int.reduceLT, Int.reduceNe, Int.reduceToNat, Int.reducePow, Int.reduceAdd, Int.reduceMul, reduceCtorEq, true_and, and_true, cond_true, cond_false, List.map_cons, List.map_nil, Option.map_some, Option.map_none, List.getElem?_cons_zero, List.getElem?_cons_succ, ne_eq, not_false_eq_true, List.nil_append, List.append_nil, List.cons_append, List.contains_cons, List.contains_nil, Nat.reduceBEq, Bool.or_false, Bool.false_or, Bool.true_or, Bool.or_true, f25, f200]
  refine condK_intro (fun hc => ?_) (fun hc => ?_)
  case refine_1 =>
    have hc : j < 256 := by have := of_decide_eq_true hc; omega
    have e1 : ∀ t, aBin E0 .add t (.str (List.replicate j 107)) (.str [107]) = some (.str (List.replicate (j + 1) 107)) := fun t => by
      rw [bin_sadd (by simp; omega), ← List.replicate_succ']
    simp only [go_sem, reduceIte, Nat.reduceEqDiff, Nat.reduceAdd, Nat.reduceMul, Nat.reduceSub, Int.reduceLE, Int.reduceLT, Int.reduceNe, Int.reduceToNat, Int.reducePow, Int.reduceAdd, Int.reduceMul, reduceCtorEq, true_and, and_true, cond_true, cond_false, List.map_cons, List.map_nil, Option.map_some, Option.map_none, List.getElem?_cons_zero, List.getElem?_cons_succ, ne_eq, not_false_eq_true, List.nil_append, List.append_nil, List.cons_append, List.contains_cons, List.contains_nil, Nat.reduceBEq, Bool.or_false, Bool.false_or, Bool.true_or, Bool.or_true, f25, f200, e1, w_inc (show j ≤ 1000000000 by omega)]
    exact ⟨256 - (j + 1), by omega, j + 1, rfl, by omega, (by repeat (first | exact hf | refine G6.set ?_ (by decide))), rfl, rfl⟩
  case refine_2 =>
    have hc : j = 256 := by have := of_decide_eq_false hc; omega
    subst hc
    have hll : (List.replicate 256 (107 : UInt8)).length = 256 := by simp
    have hdl : (List.replicate 256 (107 : UInt8)).drop 1 = List.replicate 255 107 := by rw [List.drop_replicate]
    have hl2 : (List.replicate 255 (107 : UInt8)).length = 255 := by simp
    have h02 : List.replicate 255 (107 : UInt8) ≠ [] := fun e => by rw [e] at hl2; cases hl2
    generalize List.replicate 256 (107 : UInt8) = lg at *
    generalize List.replicate 255 (107 : UInt8) = lh at *
    have o1 : objOK lg = false := by unfold objOK; rw [decide_eq_false (show ¬ lg.length ≤ 255 by omega), Bool.and_false]
    have o2 : objOK lh = true := by unfold objOK; rw [decide_eq_true (show lh.length ≤ 255 by omega), beq_false_of_ne h02]; rfl
    have e3 : aSlice E0 9 (.str lg) (some (.int .i64 1)) none none = some (.str lh) := by
      have e := slice_str (E := E0) (t := 9) (s := lg) (lo := some (.int .i64 (1 : Nat))) (hi := none) (a := 1) (b := lg.length) str9 (.inr ⟨_, rfl⟩) (.inl ⟨rfl, rfl⟩) (by omega) (Nat.le_refl _)
      rw [List.take_of_length_le (by simp), hdl] at e
      exact e
    obtain ⟨_, c1, h1, rfl, k1⟩ := object_con lg hh n (by omega)
    rw [o1] at c1
    have c1 : aCall E0 sp0 100000 n 58 [.str lg] hh = some (.ret (.tup [.str [], .int .i64 90]) h1) := c1
    obtain ⟨_, c2, h2, rfl, k2⟩ := object_con lh h1 n (by omega)
    rw [o2] at c2
    have c2 : aCall E0 sp0 100000 n 58 [.str lh] h1 = some (.ret (.tup [.str (nameB lh), .int .i64 0]) h2) := c2
    have hnl : ((nameB lh).length : Int) = 511 := by rw [name_len, hl2]; rfl
    have d1 : ((511 : Int) == 511) = true := rfl
    simp only [go_sem, reduceIte, Nat.reduceEqDiff, Nat.reduceAdd, Nat.reduceMul, Nat.reduceSub, Int.reduceLE, Int.reduceLT, Int.reduceNe, Int.reduceToNat, Int.reducePow, Int.reduceAdd, Int.reduceMul, reduceCtorEq, true_and, and_true, cond_true, cond_false, List.map_cons, List.map_nil, Option.map_some, Option.map_none, List.getElem?_cons_zero, List.getElem?_cons_succ, ne_eq, not_false_eq_true, List.nil_append, List.append_nil, List.cons_append, List.contains_cons, List.contains_nil, Nat.reduceBEq, Bool.or_false, Bool.false_or, Bool.true_or, Bool.or_true, f25, st_callf fs58, c1, c2, e3, hnl, d1]
    exact hQ _ _ (by repeat (first | exact hf | refine G6.set ?_ (by decide))) ((k1.trans k2).mono (by simp))

theorem w_incB {i : Nat} (hi : i + 1 ≤ 9223372036854775807) : IntKind.i64.wrap ((i : Int) + 1) = ((i + 1 : Nat) : Int) := by rw [wrap_i64 (by omega)]; omega
theorem tmod_k (a b : Nat) : Int.tmod (a : Int) (b : Int) = ((a % b : Nat) : Int) := by
  rw [Int.tmod_eq_emod_of_nonneg (by omega)]; norm_cast
theorem toNat_beq (c : UInt8) (k : UInt8) : (((c.toNat : Nat) : Int) == ((k.toNat : Nat) : Int)) = (c == k) := by
  by_cases h : c = k
  · subst h; simp
  · have : ((c.toNat : Nat) : Int) ≠ ((k.toNat : Nat) : Int) := fun e => h (UInt8.toNat_inj.1 (by omega))
    rw [beq_false_of_ne h, beq_false_of_ne this]

theorem topKC {n m : Nat} (hm : 9223372036854775808 ≤ m) {h : AH} {fr : Nat → AV} {pv tv av : AV} {other : List UInt8} (ho : other.length ≤ 9223372036854775807) (hf : G6 fr pv other tv av)
    {Q : CR → Prop} (hQ : ∀ fr', G6 fr' pv other tv av → fr' 30 = .int .i64 0 → fr' 31 = .bool (rightB other) → wCode E0 (aCall E0 sp0 100000 n) m lc6_73 fr' h Q) :
    wCode E0 (aCall E0 sp0 100000 n) m lc6_64 fr h Q := by
  have loop : ∀ fr0 : Nat → AV, G6 fr0 pv other tv av → fr0 30 = .int .i64 0 → fr0 31 = .bool (right0 other) → wCode E0 (aCall E0 sp0 100000 n) m lc6_66 fr0 h Q := by
    intro fr0 hf f30 f31
    have hs1 : AV.bool (right0 other) = .bool (right0 other && ((other.take 1).drop 1).all hexc) := by
      have : ((other.take 1).drop 1) = [] := by rw [List.drop_eq_nil_iff, List.length_take]; omega
      rw [this]; simp
    simp only [w_lc6_66, go_sem, reduceIte, Nat.reduceEqDiff, Nat.reduceAdd, Nat.reduceMul, Nat.reduceSub, Int.reduceLE, Int.reduceLT, Int.reduceNe, Int.reduceToNat, Int.reducePow, Int.reduceAdd, Int.reduceMul, reduceCtorEq, true_and, and_true, cond_true, cond_false, List.map_cons, List.map_nil, Option.map_some, Option.map_none, List.getElem?_cons_zero, List.getElem?_cons_succ, ne_eq, not_false_eq_true, List.nil_append, List.append_nil, List.cons_append, List.contains_cons, List.contains_nil, Nat.reduceBEq, Bool.or_false, Bool.false_or, Bool.true_or, Bool.or_true]
    refine wLoop_inv (fun k fr h1 => ∃ j, k = other.length - j ∧ 1 ≤ j ∧ (j ≤ other.length ∨ j = 1) ∧ h1 = h ∧ G6 fr pv other tv av ∧ fr 30 = .int .i64 0 ∧ fr 31 = .bool (right0 other && ((other.take j).drop 1).all hexc) ∧ fr 32 = .int .i64 (j : Nat)) ?_ m (other.length - 1) _ _ (by omega)
      ⟨1, rfl, by omega, .inr rfl, rfl, (by repeat (first | exact hf | refine G6.set ?_ (by decide))), by simp only [go_sem, reduceIte, Nat.reduceEqDiff, Nat.reduceAdd, Nat.reduceMul, Nat.reduceSub, Int.reduceLE, Int.reduceLT, Int.reduceNe, Int.reduceToNat, Int.reducePow, Int.reduceAdd, Int.reduceMul, reduceCtorEq, true_and, and_true, cond_true, cond_false, List.map_cons, List.map_nil, Option.map_some, Option.map_none, List.getElem?_cons_zero, List.getElem?_cons_succ, ne_eq, not_false_eq_true, List.nil_append, List.append_nil, List.cons_append, List.contains_cons, List.contains_nil, Nat.reduceBEq, Bool.or_false, Bool.false_or, Bool.true_or, Bool.or_true, f30], by simp only [go_sem, reduceIte, Nat.reduceEqDiff, Nat.reduceAdd, Nat.reduceMul, Nat.reduceSub, Int.reduceLE, Int.reduceLT, Int.reduceNe, Int.reduceToNat, Int.reducePow, Int.reduceAdd, Int.reduceMul, reduceCtorEq, true_and, and_true, cond_true, cond_false, List.map_cons, List.map_nil, Option.map_some, Option.map_none, List.getElem?_cons_zero, List.getElem?_cons_succ, ne_eq, not_false_eq_true, List.nil_append, List.append_nil, List.cons_append, List.contains_cons, List.contains_nil, Nat.reduceBEq, Bool.or_false, Bool.false_or, Bool.true_or, Bool.or_true, f31]; exact hs1, by simp only [go_sem, reduceIte, Nat.reduceEqDiff, Nat.reduceAdd, Nat.reduceMul, Nat.reduceSub, Int.reduceLE, Int.reduceLT, Int.reduceNe, Int.reduceToNat, Int.reducePow, Int.reduceAdd, Int.reduceMul, reduceCtorEq, true_and, and_true, cond_true, cond_false, List.map_cons, List.map_nil, Option.map_some, Option.map_none, List.getElem?_cons_zero, List.getElem?_cons_succ, ne_eq, not_false_eq_true, List.nil_append, List.append_nil, List.cons_append, List.contains_cons, List.contains_nil, Nat.reduceBEq, Bool.or_false, Bool.false_or, Bool.true_or, Bool.or_true]; rfl⟩
    rintro k fr hh ⟨j, rfl, hj1, hj2, rfl, hf, f30, f31, f32⟩
    simp only [go_sem, reduceIte, Nat.reduceEqDiff, Nat.reduceAdd, Nat.reduceMul, Nat.reduceSub, Int.reduceLE, Int.reduceLT, Int.reduceNe, Int.reduceToNat, Int.reducePow, Int.reduceAdd, Int.reduceMul, reduceCtorEq, true_and, and_true, cond_true, cond_false, List.map_cons, List.map_nil, Option.map_some, Option.map_none, List.getElem?_cons_zero, List.getElem?_cons_succ, ne_eq, not_false_eq_true, List.nil_append, List.append_nil, List.cons_append, List.contains_cons, List.contains_nil, Nat.reduceBEq, Bool.or_false, Bool.false_or, Bool.true_or, Bool.or_true, f32, hf.f2]
    refine condK_intro (fun hc => ?_) (fun hc => ?_)
    case refine_2 =>
      have hc : other.length ≤ j := by have := of_decide_eq_false hc; omega
      have e : (right0 other && ((other.take j).drop 1).all hexc) = rightB other := by rw [List.take_of_length_le hc]; rfl
      rw [e] at f31
      simp only [go_sem, reduceIte, Nat.reduceEqDiff, Nat.reduceAdd, Nat.reduceMul, Nat.reduceSub, Int.reduceLE, Int.reduceLT, Int.reduceNe, Int.reduceToNat, Int.reducePow, Int.reduceAdd, Int.reduceMul, reduceCtorEq, true_and, and_true, cond_true, cond_false, List.map_cons, List.map_nil, Option.map_some, Option.map_none, List.getElem?_cons_zero, List.getElem?_cons_succ, ne_eq, not_false_eq_true, List.nil_append, List.append_nil, List.cons_append, List.contains_cons, List.contains_nil, Nat.reduceBEq, Bool.or_false, Bool.false_or, Bool.true_or, Bool.or_true]
      exact hQ _ (by repeat (first | exact hf | refine G6.set ?_ (by decide))) (by simp only [go_sem, reduceIte, Nat.reduceEqDiff, Nat.reduceAdd, Nat.reduceMul, Nat.reduceSub, Int.reduceLE, Int.reduceLT, Int.reduceNe, Int.reduceToNat, Int.reducePow, Int.reduceAdd, Int.reduceMul, reduceCtorEq, true_and, and_true, cond_true, cond_false, List.map_cons, List.map_nil, Option.map_some, Option.map_none, List.getElem?_cons_zero, List.getElem?_cons_succ, ne_eq, not_false_eq_true, List.nil_append, List.append_nil, List.cons_append, List.contains_cons, List.contains_nil, Nat.reduceBEq, Bool.or_false, Bool.false_or, Bool.true_or, Bool.or_true, f30]) (by simp only [go_sem, reduceIte, Nat.reduceEqDiff, Nat.reduceAdd, Nat.reduceMul, Nat.reduceSub, Int.reduceLE, Int.reduceLT, Int.reduceNe, Int.reduceToNat, Int.reducePow, Int.reduceAdd, Int.reduceMul, reduceCtorEq, true_and, and_true, cond_true, cond_false, List.map_cons, List.map_nil, Option.map_some, Option.map_none, List.getElem?_cons_zero, List.getElem?_cons_succ, ne_eq, not_false_eq_true, List.nil_append, List.append_nil, List.cons_append, List.contains_cons, List.contains_nil, Nat.reduceBEq, Bool.or_false, Bool.false_or, Bool.true_or, Bool.or_true, f31])
    case refine_1 =>
      have hc : j < other.length := by have := of_decide_eq_true hc; omega
      have hx : other[j]? = some other[j] := List.getElem?_eq_getElem hc
      generalize other[j] = c at hx
      have hnx : (right0 other && ((other.take (j + 1)).drop 1).all hexc) = ((right0 other && ((other.take j).drop 1).all hexc) && hexc c) := by
        rw [take_succ_of hx, List.drop_append_of_le_length (by rw [List.length_take]; omega), List.all_append, Bool.and_assoc]
        simp
      generalize (right0 other && ((other.take j).drop 1).all hexc) = b at *
      have fin31 : ∀ r, r = (b && hexc c) → AV.bool r = .bool (right0 other && ((other.take (j + 1)).drop 1).all hexc) := fun r hr => by rw [hnx, hr]
      cases b with
      | false =>
        simp only [go_sem, reduceIte, Nat.reduceEqDiff, Nat.reduceAdd, Nat.reduceMul, Nat.reduceSub, Int.reduceLE, Int.reduceLT, Int.reduceNe, Int.reduceToNat, Int.reducePow, Int.reduceAdd, Int.reduceMul, reduceCtorEq, true_and, and_true, cond_true, cond_false, List.map_cons, List.map_nil, Option.map_some, Option.map_none, List.getElem?_cons_zero, List.getElem?_cons_succ, ne_eq, not_false_eq_true, List.nil_append, List.append_nil, List.cons_append, List.contains_cons, List.contains_nil, Nat.reduceBEq, Bool.or_false, Bool.false_or, Bool.true_or, Bool.or_true, f30, f31, f32, hf.f2, idx_str str9 hx, w_incB (show j + 1 ≤ 9223372036854775807 by omega)]
        exact ⟨other.length - (j + 1), by omega, j + 1, rfl, by omega, .inl (by omega), (by repeat (first | exact hf | refine G6.set ?_ (by decide))), fin31 _ (by rfl), rfl⟩
      | true =>
      by_cases h1 : 48 ≤ c.toNat
      case neg =>
        have d1 : decide ((48 : Int) ≤ (c.toNat : Int)) = false := decide_eq_false (by omega)
        have d3 : decide ((97 : Int) ≤ (c.toNat : Int)) = false := decide_eq_false (by omega)
        have hx2 : hexc c = false := by unfold hexc; rw [decide_eq_false h1, decide_eq_false (show ¬ 97 ≤ c.toNat by omega)]; rfl
        simp only [go_sem, reduceIte, Nat.reduceEqDiff, Nat.reduceAdd, Nat.reduceMul, Nat.reduceSub, Int.reduceLE, Int.reduceLT, Int.reduceNe, Int.reduceToNat, Int.reducePow, Int.reduceAdd, Int.reduceMul, reduceCtorEq, true_and, and_true, cond_true, cond_false, List.map_cons, List.map_nil, Option.map_some, Option.map_none, List.getElem?_cons_zero, List.getElem?_cons_succ, ne_eq, not_false_eq_true, List.nil_append, List.append_nil, List.cons_append, List.contains_cons, List.contains_nil, Nat.reduceBEq, Bool.or_false, Bool.false_or, Bool.true_or, Bool.or_true, f30, f31, f32, hf.f2, idx_str str9 hx, d1, d3, w_incB (show j + 1 ≤ 9223372036854775807 by omega)]
        exact ⟨other.length - (j + 1), by omega, j + 1, rfl, by omega, .inl (by omega), (by repeat (first | exact hf | refine G6.set ?_ (by decide))), fin31 _ (by rw [hx2]; rfl), rfl⟩
      case pos =>
      have d1 : decide ((48 : Int) ≤ (c.toNat : Int)) = true := decide_eq_true (by omega)
      by_cases h2 : c.toNat ≤ 57
      case pos =>
        have d2 : decide ((c.toNat : Int) ≤ 57) = true := decide_eq_true (by omega)
        have hx2 : hexc c = true := by unfold hexc; rw [decide_eq_true h1, decide_eq_true h2]; rfl
        simp only [go_sem, reduceIte, Nat.reduceEqDiff, Nat.reduceAdd, Nat.reduceMul, Nat.reduceSub, Int.reduceLE, Int.reduceLT, Int.reduceNe, Int.reduceToNat, Int.reducePow, Int.reduceAdd, Int.reduceMul, reduceCtorEq, true_and, and_true, cond_true, cond_false, List.map_cons, List.map_nil, Option.map_some, Option.map_none, List.getElem?_cons_zero, List.getElem?_cons_succ, ne_eq, not_false_eq_true, List.nil_append, List.append_nil, List.cons_append, List.contains_cons, List.contains_nil, Nat.reduceBEq, Bool.or_false, Bool.false_or, Bool.true_or, Bool.or_true, f30, f31, f32, hf.f2, idx_str str9 hx, d1, d2, w_incB (show j + 1 ≤ 9223372036854775807 by omega)]
        exact ⟨other.length - (j + 1), by omega, j + 1, rfl, by omega, .inl (by omega), (by repeat (first | exact hf | refine G6.set ?_ (by decide))), fin31 _ (by rw [hx2]; rfl), rfl⟩
      case neg =>
      have d2 : decide ((c.toNat : Int) ≤ 57) = false := decide_eq_false (by omega)
      by_cases h3 : 97 ≤ c.toNat
      case neg =>
        have d3 : decide ((97 : Int) ≤ (c.toNat : Int)) = false := decide_eq_false (by omega)
        have hx2 : hexc c = false := by unfold hexc; rw [decide_eq_false h2, decide_eq_false h3, Bool.and_false]; rfl
        simp only [go_sem, reduceIte, Nat.reduceEqDiff, Nat.reduceAdd, Nat.reduceMul, Nat.reduceSub, Int.reduceLE, Int.reduceLT, Int.reduceNe, Int.reduceToNat, Int.reducePow, Int.reduceAdd, Int.reduceMul, reduceCtorEq, true_and, and_true, cond_true, cond_false, List.map_cons, List.map_nil, Option.map_some, Option.map_none, List.getElem?_cons_zero, List.getElem?_cons_succ, ne_eq, not_false_eq_true, List.nil_append, List.append_nil, List.cons_append, List.contains_cons, List.contains_nil, Nat.reduceBEq, Bool.or_false, Bool.false_or, Bool.true_or, Bool.or_true, f30, f31, f32, hf.f2, idx_str str9 hx, d1, d2, d3, w_incB (show j + 1 ≤ 9223372036854775807 by omega)]
        exact ⟨other.length - (j + 1), by omega, j + 1, rfl, by omega, .inl (by omega), (by repeat (first | exact hf | refine G6.set ?_ (by decide))), fin31 _ (by rw [hx2]; rfl), rfl⟩
      case pos =>
        have d3 : decide ((97 : Int) ≤ (c.toNat : Int)) = true := decide_eq_true (by omega)
        have hx2 : hexc c = decide (c.toNat ≤ 102) := by unfold hexc; rw [decide_eq_false h2, decide_eq_true h3, Bool.and_false]; rfl
        have d4 : decide ((c.toNat : Int) ≤ 102) = decide (c.toNat ≤ 102) := by simp only [Int.ofNat_le, decide_eq_decide]; omega
        simp only [go_sem, reduceIte, Nat.reduceEqDiff, Nat.reduceAdd, Nat.reduceMul, Nat.reduceSub, Int.reduceLE, Int.reduceLT, Int.reduceNe, Int.reduceToNat, Int.reducePow, Int.reduceAdd, Int.reduceMul, reduceCtorEq, true_and, and_true, cond_true, cond_false, List.map_cons, List.map_nil, Option.map_some, Option.map_none, List.getElem?_cons_zero, List.getElem?_cons_succ, ne_eq, not_false_eq_true, List.nil_append, List.append_nil, List.cons_append, List.contains_cons, List.contains_nil, Nat.reduceBEq, Bool.or_false, Bool.false_or, Bool.true_or, Bool.or_true, f30, f31, f32, hf.f2, idx_str str9 hx, d1, d2, d3, d4, w_incB (show j + 1 ≤ 9223372036854775807 by omega)]
        exact ⟨other.length - (j + 1), by omega, j + 1, rfl, by omega, .inl (by omega), (by repeat (first | exact hf | refine G6.set ?_ (by decide))), fin31 _ (by rw [hx2]; rfl), rfl⟩
  have d0 : ∀ k : Nat, aBin E0 .rem 3 (.int .i64 (other.length : Nat)) (.int .i64 2) = some (.int .i64 ((other.length % 2 : Nat) : Int)) := fun k => by
    rw [bin_rem (by decide)]
    exact congrArg _ (congrArg _ (tmod_k other.length 2))
  have d0 := d0 0
  by_cases h1 : 2 < other.length
  case neg =>
    have d1 : decide ((2 : Int) < (other.length : Int)) = false := decide_eq_false (by omega)
    have hr : right0 other = false := by unfold right0; rw [decide_eq_false h1]; rfl
    simp only [w_lc6_64, go_sem, reduceIte, Nat.reduceEqDiff, Nat.reduceAdd, Nat.reduceMul, Nat.reduceSub, Int.reduceLE, Int.reduceLT, Int.reduceNe, Int.reduceToNat, Int.reducePow, Int.reduceAdd, Int.reduceMul, reduceCtorEq, true_and, and_true, cond_true, cond_false, List.map_cons, List.map_nil, Option.map_some, Option.map_none, List.getElem?_cons_zero, List.getElem?_cons_succ, ne_eq, not_false_eq_true, List.nil_append, List.append_nil, List.cons_append, List.contains_cons, List.contains_nil, Nat.reduceBEq, Bool.or_false, Bool.false_or, Bool.true_or, Bool.or_true, hf.f2, d1]
    exact loop _ (by repeat (first | exact hf | refine G6.set ?_ (by decide))) (by simp only [go_sem, reduceIte, Nat.reduceEqDiff, Nat.reduceAdd, Nat.reduceMul, Nat.reduceSub, Int.reduceLE, Int.reduceLT, Int.reduceNe, Int.reduceToNat, Int.reducePow, Int.reduceAdd, Int.reduceMul, reduceCtorEq, true_and, and_true, cond_true, cond_false, List.map_cons, List.map_nil, Option.map_some, Option.map_none, List.getElem?_cons_zero, List.getElem?_cons_succ, ne_eq, not_false_eq_true, List.nil_append, List.append_nil, List.cons_append, List.contains_cons, List.contains_nil, Nat.reduceBEq, Bool.or_false, Bool.false_or, Bool.true_or, Bool.or_true]) (by simp only [go_sem, reduceIte, Nat.reduceEqDiff, Nat.reduceAdd, Nat.reduceMul, Nat.reduceSub, Int.reduceLE, Int.reduceLT, Int.reduceNe, Int.reduceToNat, Int.reducePow, Int.reduceAdd, Int.reduceMul, reduceCtorEq, true_and, and_true, cond_true, cond_false, List.map_cons, List.map_nil, Option.map_some, Option.map_none, List.getElem?_cons_zero, List.getElem?_cons_succ, ne_eq, not_false_eq_true, List.nil_append, List.append_nil, List.cons_append, List.contains_cons, List.contains_nil, Nat.reduceBEq, Bool.or_false, Bool.false_or, Bool.true_or, Bool.or_true, hr])
  case pos =>
  have d1 : decide ((2 : Int) < (other.length : Int)) = true := decide_eq_true (by omega)
  by_cases h2 : other.length < 512
  case neg =>
    have d2 : decide ((other.length : Int) < 512) = false := decide_eq_false (by omega)
    have hr : right0 other = false := by unfold right0; rw [decide_eq_false h2, Bool.and_false]; rfl
    simp only [w_lc6_64, go_sem, reduceIte, Nat.reduceEqDiff, Nat.reduceAdd, Nat.reduceMul, Nat.reduceSub, Int.reduceLE, Int.reduceLT, Int.reduceNe, Int.reduceToNat, Int.reducePow, Int.reduceAdd, Int.reduceMul, reduceCtorEq, true_and, and_true, cond_true, cond_false, List.map_cons, List.map_nil, Option.map_some, Option.map_none, List.getElem?_cons_zero, List.getElem?_cons_succ, ne_eq, not_false_eq_true, List.nil_append, List.append_nil, List.cons_append, List.contains_cons, List.contains_nil, Nat.reduceBEq, Bool.or_false, Bool.false_or, Bool.true_or, Bool.or_true, hf.f2, d1, d2]
    exact loop _ (by repeat (first | exact hf | refine G6.set ?_ (by decide))) (by simp only [go_sem, reduceIte, Nat.reduceEqDiff, Nat.reduceAdd, Nat.reduceMul, Nat.reduceSub, Int.reduceLE, Int.reduceLT, Int.reduceNe, Int.reduceToNat, Int.reducePow, Int.reduceAdd, Int.reduceMul, reduceCtorEq, true_and, and_true, cond_true, cond_false, List.map_cons, List.map_nil, Option.map_some, Option.map_none, List.getElem?_cons_zero, List.getElem?_cons_succ, ne_eq, not_false_eq_true, List.nil_append, List.append_nil, List.cons_append, List.contains_cons, List.contains_nil, Nat.reduceBEq, Bool.or_false, Bool.false_or, Bool.true_or, Bool.or_true]) (by simp only [go_sem, reduceIte, Nat.reduceEqDiff, Nat.reduceAdd, Nat.reduceMul, Nat.reduceSub, Int.reduceLE, Int.reduceLT, Int.reduceNe, Int.reduceToNat, Int.reducePow, Int.reduceAdd, Int.reduceMul, reduceCtorEq, true_and, and_true, cond_true, cond_false, List.map_cons, List.map_nil, Option.map_some, Option.map_none, List.getElem?_cons_zero, List.getElem?_cons_succ, ne_eq, not_false_eq_true, List.nil_append, List.append_nil, List.cons_append, List.contains_cons, List.contains_nil, Nat.reduceBEq, Bool.or_false, Bool.false_or, Bool.true_or, Bool.or_true, hr])
  case pos =>
  have d2 : decide ((other.length : Int) < 512) = true := decide_eq_true (by omega)
  by_cases h3 : other.length % 2 = 1
  case neg =>
    have d3 : (((other.length % 2 : Nat) : Int) == 1) = false := beq_false_of_ne (by omega)
    have hr : right0 other = false := by unfold right0; rw [decide_eq_false h3, Bool.and_false]; rfl
    simp only [w_lc6_64, go_sem, reduceIte, Nat.reduceEqDiff, Nat.reduceAdd, Nat.reduceMul, Nat.reduceSub, Int.reduceLE, Int.reduceLT, Int.reduceNe, Int.reduceToNat, Int.reducePow, Int.reduceAdd, Int.reduceMul, reduceCtorEq, true_and, and_true, cond_true, cond_false, List.map_cons, List.map_nil, Option.map_some, Option.map_none, List.getElem?_cons_zero, List.getElem?_cons_succ, ne_eq, not_false_eq_true, List.nil_append, List.append_nil, List.cons_append, List.contains_cons, List.contains_nil, Nat.reduceBEq, Bool.or_false, Bool.false_or, Bool.true_or, Bool.or_true, hf.f2, d0, d1, d2, d3]
    exact loop _ (by repeat (first | exact hf | refine G6.set ?_ (by decide))) (by simp only [go_sem, reduceIte, Nat.reduceEqDiff, Nat.reduceAdd, Nat.reduceMul, Nat.reduceSub, Int.reduceLE, Int.reduceLT, Int.reduceNe, Int.reduceToNat, Int.reducePow, Int.reduceAdd, Int.reduceMul, reduceCtorEq, true_and, and_true, cond_true, cond_false, List.map_cons, List.map_nil, Option.map_some, Option.map_none, List.getElem?_cons_zero, List.getElem?_cons_succ, ne_eq, not_false_eq_true, List.nil_append, List.append_nil, List.cons_append, List.contains_cons, List.contains_nil, Nat.reduceBEq, Bool.or_false, Bool.false_or, Bool.true_or, Bool.or_true]) (by simp only [go_sem, reduceIte, Nat.reduceEqDiff, Nat.reduceAdd, Nat.reduceMul, Nat.reduceSub, Int.reduceLE, Int.reduceLT, Int.reduceNe, Int.reduceToNat, Int.reducePow, Int.reduceAdd, Int.reduceMul, reduceCtorEq, true_and, and_true, cond_true, cond_false, List.map_cons, List.map_nil, Option.map_some, Option.map_none, List.getElem?_cons_zero, List.getElem?_cons_succ, ne_eq, not_false_eq_true, List.nil_append, List.append_nil, List.cons_append, List.contains_cons, List.contains_nil, Nat.reduceBEq, Bool.or_false, Bool.false_or, Bool.true_or, Bool.or_true, hr])
  case pos =>
  have d3 : (((other.length % 2 : Nat) : Int) == 1) = true := by rw [h3]; rfl
  have hx : other[0]? = some other[0] := List.getElem?_eq_getElem (by omega)
  generalize other[0] = c at hx
  have i0 : aIndex E0 9 (.str other) (.int .i64 0) = some (.int .u8 (c.toNat : Nat)) := idx_str (j := 0) str9 hx
  have d4 : (((c.toNat : Nat) : Int) == 111) = (c == 111) := toNat_beq c 111
  have hr : right0 other = (c == 111) := by unfold right0; rw [decide_eq_true h1, decide_eq_true h2, decide_eq_true h3, hx]; rfl
  simp only [w_lc6_64, go_sem, reduceIte, Nat.reduceEqDiff, Nat.reduceAdd, Nat.reduceMul, Nat.reduceSub, Int.reduceLE, Int.reduceLT, Int.reduceNe, Int.reduceToNat, Int.reducePow, Int.reduceAdd, Int.reduceMul, reduceCtorEq, true_and, and_true, cond_true, cond_false, List.map_cons, List.map_nil, Option.map_some, Option.map_none, List.getElem?_cons_zero, List.getElem?_cons_succ, ne_eq, not_false_eq_true, List.nil_append, List.append_nil, List.cons_append, List.contains_cons, List.contains_nil, Nat.reduceBEq, Bool.or_false, Bool.false_or, Bool.true_or, Bool.or_true, hf.f2, d0, d1, d2, d3, i0, d4]
  exact loop _ (by repeat (first | exact hf | refine G6.set ?_ (by decide))) (by simp only [go_sem, reduceIte, Nat.reduceEqDiff, Nat.reduceAdd, Nat.reduceMul, Nat.reduceSub, Int.reduceLE, Int.reduceLT, Int.reduceNe, Int.reduceToNat, Int.reducePow, Int.reduceAdd, Int.reduceMul, reduceCtorEq, true_and, and_true, cond_true, cond_false, List.map_cons, List.map_nil, Option.map_some, Option.map_none, List.getElem?_cons_zero, List.getElem?_cons_succ, ne_eq, not_false_eq_true, List.nil_append, List.append_nil, List.cons_append, List.contains_cons, List.contains_nil, Nat.reduceBEq, Bool.or_false, Bool.false_or, Bool.true_or, Bool.or_true]) (by simp only [go_sem, reduceIte, Nat.reduceEqDiff, Nat.reduceAdd, Nat.reduceMul, Nat.reduceSub, Int.reduceLE, Int.reduceLT, Int.reduceNe, Int.reduceToNat, Int.reducePow, Int.reduceAdd, Int.reduceMul, reduceCtorEq, true_and, and_true, cond_true, cond_false, List.map_cons, List.map_nil, Option.map_some, Option.map_none, List.getElem?_cons_zero, List.getElem?_cons_succ, ne_eq, not_false_eq_true, List.nil_append, List.append_nil, List.cons_append, List.contains_cons, List.contains_nil, Nat.reduceBEq, Bool.or_false, Bool.false_or, Bool.true_or, Bool.or_true, hr])
end Go.Proofs.Yteblojfcalgoeaa
