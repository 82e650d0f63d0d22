/- Parts of the abstract machine and of its laws, joined. Conditions: none. -/
import Derived.Test.YteblojfcalgoeaaQT
set_option linter.unusedVariables false
set_option linter.unusedSimpArgs false
/- Seat 1: codec's reading, and what it is made of. Conditions: none. -/
namespace Go.Proofs.Yteblojfcalgoeaa
open Go Go.RowKit
set_option maxRecDepth 100000
set_option linter.unusedSimpArgs false
set_option linter.unusedVariables false

/-- A reader: its bytes, how far it is, its fault. -/
structure RD (h : AH) (ri : Nat) (bv : AV) (bs : List UInt8) (at_ : Nat) (ft : Int) : Prop where
  lt : ri < h.next
  get : h.get ri = .cells [bv, .int .i64 (at_ : Nat), .int .i64 ft] 117 .own
  hbs : BS h bv bs
  ne : ri ∉ ids bv
  le : at_ ≤ bs.length

/-- The heap in which what is read is read: the reader's box, and where it began. -/
def rdHeap (h : AH) (ri at_ : Nat) : AH :=
  ((h.push (.cells [.ptr ri 0] 40 .own)).push (.cells [.int .i64 0] 3 .own)).set (h.next + 1) (.cells [.int .i64 (at_ : Nat)] 3 .own)

theorem reading_con (ri : Nat) (bv : AV) (bs : List UInt8) (at_ : Nat) (h : AH) (hr : RD h ri bv bs at_ 0) (g : FuncId) (hg : (E0.fn g).isSome = true) (caps : List AV) (d : Nat) (Qok : AH → Prop) (Qpan : Int → AH → Prop)
    (hdo : Con E0 sp0 100000 d g caps (rdHeap h ri at_) fun o => (∃ h2, o = .ret (.tup []) h2 ∧ Qok h2) ∨ ∃ e h2 at2, o = .pan (.iface 39 (.int .i64 e)) h2 ∧ h2.get h.next = .cells [.ptr ri 0] 40 .own ∧ h2.get (h.next + 1) = .cells [.int .i64 (at_ : Nat)] 3 .own ∧ h2.get ri = .cells [bv, at2, .int .i64 0] 117 .own ∧ Qpan e h2) :
    Con E0 sp0 100000 (d + 1) 68 [.ptr ri 0, .fn (.func g) [] caps] h fun o => ∃ h', o = .ret (.tup []) h' ∧ (Qok h' ∨ ∃ e h2, Qpan e h2 ∧ h'.next = h2.next ∧ h'.get ri = .cells [bv, .int .i64 (at_ : Nat), .int .i64 e] 117 .own ∧ ∀ j, j ≠ ri → h'.get j = h2.get j) := by
  refine Con.of_defer sp68 D0_of fun n hn => ⟨rfl, ?_⟩
  obtain ⟨out, e0, hout⟩ := hdo n hn
  unfold rdHeap at e0
  conv in slim _ _ _ => cbv
  simp only [go_sem, reduceIte, Nat.reduceEqDiff, Nat.reduceAdd, Nat.reduceMul, Nat.reduceSub, Int.reduceLE, Int.reduceLT, Int.reduceNe, Int.reduceToNat, Int.reducePow, Int.reduceAdd, Int.reduceMul, reduceCtorEq, true_and, and_true, cond_true, cond_false, List.map_cons, List.map_nil, Option.map_some, Option.map_none, List.getElem?_cons_zero, List.getElem?_cons_succ, ne_eq, not_false_eq_true, List.nil_append, List.append_nil, List.cons_append, List.contains_cons, List.contains_nil, Nat.reduceBEq, Bool.or_false, Bool.false_or, Bool.true_or, Bool.or_true]
  conv in slim _ _ _ => cbv
  have hlt := hr.lt
  simp (discharger := first | assumption | omega | (simp only [next_push, next_set] <;> omega) | (simp only [List.length_cons, List.length_nil] <;> omega) | decide) only [go_sem, reduceIte, Nat.reduceEqDiff, Nat.reduceAdd, Nat.reduceMul, Nat.reduceSub, Int.reduceLE, Int.reduceLT, Int.reduceNe, Int.reduceToNat, Int.reducePow, Int.reduceAdd, Int.reduceMul, reduceCtorEq, true_and, and_true, cond_true, cond_false, List.map_cons, List.map_nil, Option.map_some, Option.map_none, List.getElem?_cons_zero, List.getElem?_cons_succ, ne_eq, not_false_eq_true, List.nil_append, List.append_nil, List.cons_append, List.contains_cons, List.contains_nil, Nat.reduceBEq, Bool.or_false, Bool.false_or, Bool.true_or, Bool.or_true, get_push_new, get_push_old, hr.get]
  conv in slim _ _ _ => cbv
  simp (discharger := first | assumption | omega | (simp only [next_push, next_set] <;> omega) | (simp only [List.length_cons, List.length_nil] <;> omega) | decide) only [go_sem, reduceIte, Nat.reduceEqDiff, Nat.reduceAdd, Nat.reduceMul, Nat.reduceSub, Int.reduceLE, Int.reduceLT, Int.reduceNe, Int.reduceToNat, Int.reducePow, Int.reduceAdd, Int.reduceMul, reduceCtorEq, true_and, and_true, cond_true, cond_false, List.map_cons, List.map_nil, Option.map_some, Option.map_none, List.getElem?_cons_zero, List.getElem?_cons_succ, ne_eq, not_false_eq_true, List.nil_append, List.append_nil, List.cons_append, List.contains_cons, List.contains_nil, Nat.reduceBEq, Bool.or_false, Bool.false_or, Bool.true_or, Bool.or_true, get_push_new, get_push_old, get_set_same, get_set_ne, hr.get, List.set_cons_zero]
  conv in slim _ _ _ => cbv
  simp only [go_sem, reduceIte, Nat.reduceEqDiff, Nat.reduceAdd, Nat.reduceMul, Nat.reduceSub, Int.reduceLE, Int.reduceLT, Int.reduceNe, Int.reduceToNat, Int.reducePow, Int.reduceAdd, Int.reduceMul, reduceCtorEq, true_and, and_true, cond_true, cond_false, List.map_cons, List.map_nil, Option.map_some, Option.map_none, List.getElem?_cons_zero, List.getElem?_cons_succ, ne_eq, not_false_eq_true, List.nil_append, List.append_nil, List.cons_append, List.contains_cons, List.contains_nil, Nat.reduceBEq, Bool.or_false, Bool.false_or, Bool.true_or, Bool.or_true, callF_func hg, e0]
  rcases hout with ⟨h2, rfl, hq⟩ | ⟨e, h2, at2, rfl, g1, g2, g3, hq⟩
  · simp only [go_sem, reduceIte, Nat.reduceEqDiff, Nat.reduceAdd, Nat.reduceMul, Nat.reduceSub, Int.reduceLE, Int.reduceLT, Int.reduceNe, Int.reduceToNat, Int.reducePow, Int.reduceAdd, Int.reduceMul, reduceCtorEq, true_and, and_true, cond_true, cond_false, List.map_cons, List.map_nil, Option.map_some, Option.map_none, List.getElem?_cons_zero, List.getElem?_cons_succ, ne_eq, not_false_eq_true, List.nil_append, List.append_nil, List.cons_append, List.contains_cons, List.contains_nil, Nat.reduceBEq, Bool.or_false, Bool.false_or, Bool.true_or, Bool.or_true]
    refine ⟨rfl, ?_⟩
    conv in seqOps _ _ _ _ => cbv
    simp only [go_sem, reduceIte, Nat.reduceEqDiff, Nat.reduceAdd, Nat.reduceMul, Nat.reduceSub, Int.reduceLE, Int.reduceLT, Int.reduceNe, Int.reduceToNat, Int.reducePow, Int.reduceAdd, Int.reduceMul, reduceCtorEq, true_and, and_true, cond_true, cond_false, List.map_cons, List.map_nil, Option.map_some, Option.map_none, List.getElem?_cons_zero, List.getElem?_cons_succ, ne_eq, not_false_eq_true, List.nil_append, List.append_nil, List.cons_append, List.contains_cons, List.contains_nil, Nat.reduceBEq, Bool.or_false, Bool.false_or, Bool.true_or, Bool.or_true]
    conv in slim _ _ _ => cbv
    simp only [go_sem, reduceIte, Nat.reduceEqDiff, Nat.reduceAdd, Nat.reduceMul, Nat.reduceSub, Int.reduceLE, Int.reduceLT, Int.reduceNe, Int.reduceToNat, Int.reducePow, Int.reduceAdd, Int.reduceMul, reduceCtorEq, true_and, and_true, cond_true, cond_false, List.map_cons, List.map_nil, Option.map_some, Option.map_none, List.getElem?_cons_zero, List.getElem?_cons_succ, ne_eq, not_false_eq_true, List.nil_append, List.append_nil, List.cons_append, List.contains_cons, List.contains_nil, Nat.reduceBEq, Bool.or_false, Bool.false_or, Bool.true_or, Bool.or_true]
    exact ⟨_, rfl, .inl hq⟩
  · simp only [go_sem, reduceIte, Nat.reduceEqDiff, Nat.reduceAdd, Nat.reduceMul, Nat.reduceSub, Int.reduceLE, Int.reduceLT, Int.reduceNe, Int.reduceToNat, Int.reducePow, Int.reduceAdd, Int.reduceMul, reduceCtorEq, true_and, and_true, cond_true, cond_false, List.map_cons, List.map_nil, Option.map_some, Option.map_none, List.getElem?_cons_zero, List.getElem?_cons_succ, ne_eq, not_false_eq_true, List.nil_append, List.append_nil, List.cons_append, List.contains_cons, List.contains_nil, Nat.reduceBEq, Bool.or_false, Bool.false_or, Bool.true_or, Bool.or_true]
    refine ⟨rfl, ?_⟩
    conv in seqOps _ _ _ _ => cbv
    simp only [go_sem, reduceIte, Nat.reduceEqDiff, Nat.reduceAdd, Nat.reduceMul, Nat.reduceSub, Int.reduceLE, Int.reduceLT, Int.reduceNe, Int.reduceToNat, Int.reducePow, Int.reduceAdd, Int.reduceMul, reduceCtorEq, true_and, and_true, cond_true, cond_false, List.map_cons, List.map_nil, Option.map_some, Option.map_none, List.getElem?_cons_zero, List.getElem?_cons_succ, ne_eq, not_false_eq_true, List.nil_append, List.append_nil, List.cons_append, List.contains_cons, List.contains_nil, Nat.reduceBEq, Bool.or_false, Bool.false_or, Bool.true_or, Bool.or_true]
    conv in slim _ _ _ => cbv
    have hne : h.next ≠ ri := by omega
    have hne1 : h.next + 1 ≠ ri := by omega
    simp (discharger := first | assumption | omega | (simp only [next_push, next_set] <;> omega) | (simp only [List.length_cons, List.length_nil] <;> omega) | decide) only [go_sem, reduceIte, Nat.reduceEqDiff, Nat.reduceAdd, Nat.reduceMul, Nat.reduceSub, Int.reduceLE, Int.reduceLT, Int.reduceNe, Int.reduceToNat, Int.reducePow, Int.reduceAdd, Int.reduceMul, reduceCtorEq, true_and, and_true, cond_true, cond_false, List.map_cons, List.map_nil, Option.map_some, Option.map_none, List.getElem?_cons_zero, List.getElem?_cons_succ, ne_eq, not_false_eq_true, List.nil_append, List.append_nil, List.cons_append, List.contains_cons, List.contains_nil, Nat.reduceBEq, Bool.or_false, Bool.false_or, Bool.true_or, Bool.or_true, get_set_same, get_set_ne, g1, g2, g3, List.set_cons_zero, List.set_cons_succ]
    refine ⟨_, rfl, .inr ⟨e, h2, hq, rfl, ?_, fun j hj => ?_⟩⟩
    · rw [get_set_same]
    · rw [get_set_ne hj, get_set_ne hj]
end Go.Proofs.Yteblojfcalgoeaa

/- Seat 1: codec's must, take, number, block. Conditions: none. -/
namespace Go.Proofs.Yteblojfcalgoeaa
open Go Go.RowKit
set_option maxRecDepth 100000
set_option linter.unusedSimpArgs false
set_option linter.unusedVariables false

theorem must_t (e : Int) (h : AH) : Con E0 sp0 100000 1 78 [.bool true, .int .i64 e] h fun o => o = .ret (.tup []) h := by
  refine Con.of_body rfl fn78 fun n _ => ⟨rfl, ?_⟩
  conv in slim _ _ _ => cbv
  simp only [go_sem, reduceIte, Nat.reduceEqDiff, Nat.reduceAdd, Nat.reduceMul, Nat.reduceSub, Int.reduceLE, Int.reduceLT, Int.reduceNe, Int.reduceToNat, Int.reducePow, Int.reduceAdd, Int.reduceMul, reduceCtorEq, true_and, and_true, cond_true, cond_false, List.map_cons, List.map_nil, Option.map_some, Option.map_none, List.getElem?_cons_zero, List.getElem?_cons_succ, ne_eq, not_false_eq_true, List.nil_append, List.append_nil, List.cons_append, List.contains_cons, List.contains_nil, Nat.reduceBEq, Bool.or_false, Bool.false_or, Bool.true_or, Bool.or_true, aResults_nil (F := Try.f78) rfl]
theorem must_f (e : Int) (h : AH) : Con E0 sp0 100000 1 78 [.bool false, .int .i64 e] h fun o => o = .pan (.iface 39 (.int .i64 e)) h := by
  refine Con.of_body rfl fn78 fun n _ => ⟨rfl, ?_⟩
  conv in slim _ _ _ => cbv
  simp only [go_sem, reduceIte, Nat.reduceEqDiff, Nat.reduceAdd, Nat.reduceMul, Nat.reduceSub, Int.reduceLE, Int.reduceLT, Int.reduceNe, Int.reduceToNat, Int.reducePow, Int.reduceAdd, Int.reduceMul, reduceCtorEq, true_and, and_true, cond_true, cond_false, List.map_cons, List.map_nil, Option.map_some, Option.map_none, List.getElem?_cons_zero, List.getElem?_cons_succ, ne_eq, not_false_eq_true, List.nil_append, List.append_nil, List.cons_append, List.contains_cons, List.contains_nil, Nat.reduceBEq, Bool.or_false, Bool.false_or, Bool.true_or, Bool.or_true]

/-- The reader's next bytes are taken. -/
theorem take_con (ri : Nat) (bv : AV) (bs : List UInt8) (at_ : Nat) (ft : Int) (h : AH) (hr : RD h ri bv bs at_ ft) (k : Nat) (hk : k < 18446744073709551616) (hl : bs.length ≤ 140737488355328) :
    Con E0 sp0 100000 2 70 [.ptr ri 0, .int .u64 k] h fun o =>
      (k ≤ bs.length - at_ ∧ ∃ v, o = .ret v (h.set ri (.cells [bv, .int .i64 ((at_ + k : Nat) : Int), .int .i64 ft] 117 .own)) ∧ BS h v ((bs.drop at_).take k) ∧ (∀ i ∈ ids v, i ∈ ids bv)) ∨
      (¬ k ≤ bs.length - at_ ∧ o = .pan (.iface 39 (.int .i64 70)) h) := by
  refine Con.of_body rfl fn70 fun n hn => ⟨rfl, ?_⟩
  conv in slim _ _ _ => cbv
  have hlt := hr.lt
  have hle := hr.le
  have e1 : IntKind.i64.wrap ((bs.length : Int) - (at_ : Int)) = ((bs.length - at_ : Nat) : Int) := by rw [wrap_i64 (by omega)]; omega
  have hlen := len_bytes byte24 hr.hbs
  by_cases hc : k ≤ bs.length - at_
  · obtain ⟨_, e2, rfl⟩ := must_t 70 h n hn
    have hd : decide ((k : Int) ≤ ((bs.length - at_ : Nat) : Int)) = true := decide_eq_true (by omega)
    have e3 : IntKind.i64.wrap (k : Int) = (k : Int) := wrap_i64 (by omega)
    have e4 : IntKind.i64.wrap ((at_ : Int) + (k : Int)) = ((at_ + k : Nat) : Int) := by rw [wrap_i64 (by omega)]; omega
    obtain ⟨v, e5, hv, hi⟩ := slice_bytes byte24 hr.hbs (lo := some (.int .i64 (at_ : Nat))) (hi := some (.int .i64 ((at_ + k : Nat) : Int))) (a := at_) (b := at_ + k) (.inr ⟨_, rfl⟩) (.inr ⟨_, rfl⟩) (by omega) (by omega)
    simp (maxSteps := 10000000) (discharger := first | assumption | omega | (simp only [next_push, next_set] <;> omega) | (simp only [List.length_cons, List.length_nil] <;> omega) | decide) only [go_sem, reduceIte, Nat.reduceEqDiff, Nat.reduceAdd, Nat.reduceMul, Nat.reduceSub, Int.reduceLE, Int.reduceLT, Int.reduceNe, Int.reduceToNat, Int.reducePow, Int.reduceAdd, Int.reduceMul, reduceCtorEq, true_and, and_true, cond_true, cond_false, List.map_cons, List.map_nil, Option.map_some, Option.map_none, List.getElem?_cons_zero, List.getElem?_cons_succ, ne_eq, not_false_eq_true, List.nil_append, List.append_nil, List.cons_append, List.contains_cons, List.contains_nil, Nat.reduceBEq, Bool.or_false, Bool.false_or, Bool.true_or, Bool.or_true, hr.get, hlen, e1, w_u64_in (bs.length - at_) (by omega), hd, e2, e3, e4, e5, List.set_cons_zero, List.set_cons_succ, aResults_one (F := Try.f70) rfl]
    refine .inl ⟨hc, v, rfl, ?_, hi⟩
    rwa [List.drop_take, show at_ + k - at_ = k by omega] at hv
  · obtain ⟨_, e2, rfl⟩ := must_f 70 h n hn
    have hd : decide ((k : Int) ≤ ((bs.length - at_ : Nat) : Int)) = false := decide_eq_false (by omega)
    simp (maxSteps := 10000000) (discharger := first | assumption | omega | (simp only [next_push, next_set] <;> omega) | (simp only [List.length_cons, List.length_nil] <;> omega) | decide) only [go_sem, reduceIte, Nat.reduceEqDiff, Nat.reduceAdd, Nat.reduceMul, Nat.reduceSub, Int.reduceLE, Int.reduceLT, Int.reduceNe, Int.reduceToNat, Int.reducePow, Int.reduceAdd, Int.reduceMul, reduceCtorEq, true_and, and_true, cond_true, cond_false, List.map_cons, List.map_nil, Option.map_some, Option.map_none, List.getElem?_cons_zero, List.getElem?_cons_succ, ne_eq, not_false_eq_true, List.nil_append, List.append_nil, List.cons_append, List.contains_cons, List.contains_nil, Nat.reduceBEq, Bool.or_false, Bool.false_or, Bool.true_or, Bool.or_true, hr.get, hlen, e1, w_u64_in (bs.length - at_) (by omega), hd, e2]
    exact .inr hc
end Go.Proofs.Yteblojfcalgoeaa

/- Seat 1: what reading comes to, as plain functions over lists of bytes. Conditions: none. -/
namespace Go.Proofs.Yteblojfcalgoeaa
open Go Go.RowKit
set_option linter.unusedVariables false

/-- What is read: a value and how many bytes it took, or a fault. -/
inductive DR (α : Type) where
  | ok (a : α) (k : Nat)
  | bad (e : Nat)

/-- A number's short form is read: the i-th group, what there is so far. -/
def numF (i v : Nat) : List UInt8 → DR Nat
  | [] => .bad 70
  | c :: r => if i < 9 ∨ c.toNat ≤ 1 then
      (if c.toNat < 128 then (if 0 < c.toNat ∨ i = 0 then .ok (v + c.toNat % 128 * 2 ^ (7 * i)) (i + 1) else .bad 71)
       else numF (i + 1) (v + c.toNat % 128 * 2 ^ (7 * i)) r)
      else .bad 71

theorem u8_small {n : Nat} (h : n < 256) : (UInt8.ofNat n).toNat = n := by simp [Nat.mod_eq_of_lt h]

theorem numF_short : ∀ (y i v : Nat) (rest : List UInt8), (i = 0 ∨ 0 < y) → i ≤ 9 → y * 2 ^ (7 * i) < 18446744073709551616 →
    numF i v (shortB y ++ rest) = .ok (v + y * 2 ^ (7 * i)) (i + (shortB y).length) := by
  intro y
  induction y using Nat.strongRecOn with
  | _ y ih =>
    intro i v rest h0 hi hy
    have hi9 : i = 9 → y ≤ 1 := by
      intro e; subst e; simp at hy; omega
    by_cases hs : y < 128
    · rw [shortB_small hs]
      simp only [List.cons_append, List.nil_append, numF, u8_small (show y < 256 by omega), List.length_cons, List.length_nil]
      rw [if_pos (by omega), if_pos hs, if_pos (by omega), Nat.mod_eq_of_lt hs]
    · rw [shortB_big hs]
      have hi' : i < 9 := by
        rcases Nat.lt_or_ge i 9 with h | h
        · exact h
        · have := hi9 (by omega); omega
      simp only [List.cons_append, numF, u8_small (show y % 128 + 128 < 256 by omega), List.length_cons]
      have e1 : (y % 128 + 128) % 128 = y % 128 := by omega
      have e2 : 2 ^ (7 * (i + 1)) = 128 * 2 ^ (7 * i) := by rw [Nat.mul_add, Nat.pow_add]; omega
      have e3 : y / 128 * 2 ^ (7 * (i + 1)) + y % 128 * 2 ^ (7 * i) = y * 2 ^ (7 * i) := by
        rw [e2, ← Nat.mul_assoc, ← Nat.add_mul]
        congr 1
        omega
      rw [if_pos (.inl hi'), if_neg (by omega), e1, ih (y / 128) (by omega) (i + 1) _ rest (.inr (by omega)) (by omega) (by omega)]
      congr 1 <;> omega

theorem numF_cut : ∀ (y i v t : Nat), i ≤ 9 → y * 2 ^ (7 * i) < 18446744073709551616 → t < (shortB y).length → numF i v ((shortB y).take t) = .bad 70 := by
  intro y
  induction y using Nat.strongRecOn with
  | _ y ih =>
    intro i v t hi hy ht
    by_cases hs : y < 128
    · rw [shortB_small hs] at ht ⊢
      simp only [List.length_cons, List.length_nil] at ht
      have : t = 0 := by omega
      subst this
      rfl
    · rw [shortB_big hs] at ht ⊢
      cases t with
      | zero => rfl
      | succ t =>
        have hi' : i < 9 := by
          rcases Nat.lt_or_ge i 9 with h | h
          · exact h
          · have : i = 9 := by omega
            subst this; simp at hy; omega
        simp only [List.length_cons] at ht
        have e2 : 2 ^ (7 * (i + 1)) = 128 * 2 ^ (7 * i) := by rw [Nat.mul_add, Nat.pow_add]; omega
        have e3 : y / 128 * 2 ^ (7 * (i + 1)) ≤ y * 2 ^ (7 * i) := by
          rw [e2, ← Nat.mul_assoc]
          exact Nat.mul_le_mul_right _ (by omega)
        simp only [List.take_succ_cons, numF, u8_small (show y % 128 + 128 < 256 by omega)]
        rw [if_pos (.inl hi'), if_neg (by omega)]
        exact ih (y / 128) (by omega) _ _ _ (by omega) (by omega) (by omega)

/-- A short form with one group more than it needs. -/
def longB (n : Nat) : List UInt8 := if n < 128 then [UInt8.ofNat (n + 128), 0] else UInt8.ofNat (n % 128 + 128) :: longB (n / 128)
termination_by n
decreasing_by omega
theorem longB_small {n : Nat} (h : n < 128) : longB n = [UInt8.ofNat (n + 128), 0] := by rw [longB, if_pos h]
theorem longB_big {n : Nat} (h : ¬ n < 128) : longB n = UInt8.ofNat (n % 128 + 128) :: longB (n / 128) := by rw [longB, if_neg h]
theorem numF_long : ∀ (y i v : Nat), i ≤ 9 → y * 2 ^ (7 * i) < 18446744073709551616 → numF i v (longB y) = .bad 71 := by
  intro y
  induction y using Nat.strongRecOn with
  | _ y ih =>
    intro i v hi hy
    by_cases hs : y < 128
    · rw [longB_small hs]
      simp only [numF, u8_small (show y + 128 < 256 by omega)]
      by_cases h9 : i < 9
      · rw [if_pos (.inl h9), if_neg (by omega)]
        simp
      · rw [if_neg (by omega)]
    · rw [longB_big hs]
      have hi' : i < 9 := by
        rcases Nat.lt_or_ge i 9 with h | h
        · exact h
        · have : i = 9 := by omega
          subst this; simp at hy; omega
      have e2 : 2 ^ (7 * (i + 1)) = 128 * 2 ^ (7 * i) := by rw [Nat.mul_add, Nat.pow_add]; omega
      have e3 : y / 128 * 2 ^ (7 * (i + 1)) ≤ y * 2 ^ (7 * i) := by
        rw [e2, ← Nat.mul_assoc]
        exact Nat.mul_le_mul_right _ (by omega)
      simp only [numF, u8_small (show y % 128 + 128 < 256 by omega)]
      rw [if_pos (.inl hi'), if_neg (by omega)]
      exact ih (y / 128) (by omega) _ _ (by omega) (by omega)
theorem longB_of : ∀ (y : Nat) (a : List UInt8) (c : UInt8), shortB y = a ++ [c] → longB y = a ++ [c ||| 128, 0] := by
  intro y
  induction y using Nat.strongRecOn with
  | _ y ih =>
    intro a c h
    by_cases hs : y < 128
    · rw [shortB_small hs] at h
      rw [longB_small hs]
      cases a with
      | cons x a => have := congrArg List.length h; simp at this
      | nil =>
        simp only [List.nil_append, List.cons.injEq, and_true] at h
        subst h
        have key : ∀ n, n < 128 → UInt8.ofNat (n + 128) = UInt8.ofNat n ||| 128 := by decide +kernel
        rw [key y hs]; rfl
    · rw [shortB_big hs] at h
      rw [longB_big hs]
      cases a with
      | nil =>
        simp only [List.nil_append, List.cons.injEq] at h
        have := shortB_pos (y / 128)
        rw [h.2] at this; simp at this
      | cons x a =>
        simp only [List.cons_append, List.cons.injEq] at h
        rw [ih (y / 128) (by omega) a c h.2, h.1]; rfl

/-- A block: how long it is, then its bytes. -/
def blockF (most : Nat) (s : List UInt8) : DR (List UInt8) :=
  match numF 0 0 s with
  | .ok n k => if n ≤ most then (if n ≤ s.length - k then .ok ((s.drop k).take n) (k + n) else .bad 70) else .bad 71
  | .bad e => .bad e
def blockB (s : List UInt8) : List UInt8 := shortB s.length ++ s
theorem blockF_block {most : Nat} {p rest : List UInt8} (h : p.length ≤ most) (hp : p.length < 18446744073709551616) : blockF most (blockB p ++ rest) = .ok p (blockB p).length := by
  have := numF_short p.length 0 0 (p ++ rest) (.inl rfl) (by omega) (by simpa using hp)
  unfold blockF blockB
  rw [List.append_assoc, this]
  simp only [Nat.zero_add, Nat.mul_zero, Nat.pow_zero, Nat.mul_one]
  rw [if_pos h, if_pos (by simp [List.length_append])]
  simp
theorem blockF_cut {most t : Nat} {p : List UInt8} (h : p.length ≤ most) (hp : p.length < 18446744073709551616) (ht : t < (blockB p).length) : blockF most ((blockB p).take t) = .bad 70 := by
  unfold blockF blockB at *
  by_cases h1 : t < (shortB p.length).length
  · rw [List.take_append_of_le_length (by omega), numF_cut p.length 0 0 t (by omega) (by simpa using hp) h1]
  · rw [List.take_append, List.take_of_length_le (by omega)]
    have := numF_short p.length 0 0 (p.take (t - (shortB p.length).length)) (.inl rfl) (by omega) (by simpa using hp)
    rw [this]
    simp only [Nat.zero_add, Nat.mul_zero, Nat.pow_zero, Nat.mul_one]
    rw [List.length_append] at ht
    rw [if_pos h, if_neg]
    simp [List.length_append, List.length_take]
    omega

/-- So many bytes, the lowest first. -/
def leV : List UInt8 → Nat
  | [] => 0
  | c :: r => c.toNat + 256 * leV r
theorem leV_leB : ∀ (k n : Nat), n < 256 ^ k → leV (leB k n) = n
  | 0, n, h => by simp at h; subst h; rfl
  | k + 1, n, h => by
      have : n / 256 < 256 ^ k := by rw [Nat.pow_succ] at h; omega
      rw [leB, leV, leV_leB k _ this, u8_small (by omega)]
      omega
def fixF (w : Nat) (s : List UInt8) : DR Nat := if w ≤ s.length then .ok (leV (s.take w)) w else .bad 70

/-- So many blocks. -/
def blocksF (each : Nat) : Nat → List UInt8 → DR (List (List UInt8))
  | 0, _ => .ok [] 0
  | n + 1, s => match blockF each s with
    | .ok p k => match blocksF each n (s.drop k) with
      | .ok l k' => .ok (p :: l) (k + k')
      | .bad e => .bad e
    | .bad e => .bad e
/-- The rest of what is to come, behind what there is. -/
def afterF (ts : List (List UInt8)) (k : Nat) : DR (List (List UInt8)) → DR (List (List UInt8))
  | .ok l k' => .ok (ts ++ l) (k + k')
  | .bad e => .bad e
def textsF (most each : Nat) (s : List UInt8) : DR (List (List UInt8)) :=
  match numF 0 0 s with
  | .ok n k => if n ≤ most then afterF [] k (blocksF each n (s.drop k)) else .bad 71
  | .bad e => .bad e
end Go.Proofs.Yteblojfcalgoeaa

/- Seat 1: readers: what stays, and codec's reading in use. Conditions: none. -/
namespace Go.Proofs.Yteblojfcalgoeaa
open Go Go.RowKit
set_option maxRecDepth 100000
set_option linter.unusedSimpArgs false
set_option linter.unusedVariables false

section
variable {h h' : AH} {ri : Nat} {bv : AV} {bs : List UInt8} {at_ : Nat} {ft : Int}
theorem RD.keep {S : List Nat} (hr : RD h ri bv bs at_ ft) (k : Keep h h' S) (h1 : ri ∉ S) (h2 : ∀ i ∈ ids bv, i ∉ S) : RD h' ri bv bs at_ ft :=
  ⟨Nat.lt_of_lt_of_le hr.lt k.next, by rw [k.get _ hr.lt h1]; exact hr.get, hr.hbs.keep k h2, hr.ne, hr.le⟩
theorem RD.ids_ne (hr : RD h ri bv bs at_ ft) : ∀ i ∈ ids bv, i ∉ [ri] := fun i hi hx => hr.ne (by simp at hx; exact hx ▸ hi)
theorem RD.put (hr : RD h ri bv bs at_ ft) {k : Nat} {e : Int} (hk : k ≤ bs.length) (hk2 : Keep h h' [ri]) (hg : h'.get ri = .cells [bv, .int .i64 (k : Nat), .int .i64 e] 117 .own) : RD h' ri bv bs k e :=
  ⟨Nat.lt_of_lt_of_le hr.lt hk2.next, hg, hr.hbs.keep hk2 hr.ids_ne, hr.ne, hk⟩
theorem RD.set (hr : RD h ri bv bs at_ ft) {k : Nat} {e : Int} (hk : k ≤ bs.length) : RD (h.set ri (.cells [bv, .int .i64 (k : Nat), .int .i64 e] 117 .own)) ri bv bs k e :=
  hr.put hk (Keep.set h ri _) get_set_same
theorem keep_rd : Keep h (rdHeap h ri at_) [] := by
  have k := ((Keep.push h (.cells [.ptr ri 0] 40 .own)).trans (Keep.push _ (.cells [.int .i64 0] 3 .own))).trans (Keep.set _ (h.next + 1) (.cells [.int .i64 (at_ : Nat)] 3 .own))
  exact k.mono (fun j hj hlt => by simp at hj; omega)
theorem rd_next : (rdHeap h ri at_).next = h.next + 2 := rfl
theorem rd_0 : (rdHeap h ri at_).get h.next = .cells [.ptr ri 0] 40 .own := by
  unfold rdHeap
  rw [get_set_ne (by omega), get_push_old (by simp), get_push_new rfl]
theorem rd_1 : (rdHeap h ri at_).get (h.next + 1) = .cells [.int .i64 (at_ : Nat)] 3 .own := by
  unfold rdHeap
  rw [get_set_same]
theorem Keep.cons {S : List Nat} {i : Nat} (k : Keep h h' S) : Keep h h' (i :: S) := k.mono fun _ hj _ => List.mem_cons_of_mem _ hj
end

/-- What a reading comes to: read, and put at an object of its own; or a fault. -/
def RdO {α : Type} (ri : Nat) (bv : AV) (bs : List UInt8) (at_ : Nat) (S : List Nat) (h : AH) (F : DR α) (Q : α → AH → Prop) (h' : AH) : Prop :=
  match F with
  | .ok x k => RD h' ri bv bs (at_ + k) 0 ∧ Keep h h' (ri :: S) ∧ Q x h'
  | .bad e => RD h' ri bv bs at_ (e : Nat) ∧ Keep h h' [ri]
/-- What the closure comes to that reads. -/
def RdP {α : Type} (ri : Nat) (bv : AV) (bs : List UInt8) (S : List Nat) (at_ : Nat) (h : AH) (F : DR α) (Q : α → AH → Prop) (o : Out) : Prop :=
  match F with
  | .ok x k => ∃ h2, o = .ret (.tup []) h2 ∧ RD h2 ri bv bs (at_ + k) 0 ∧ Keep (rdHeap h ri at_) h2 (ri :: S) ∧ Q x h2
  | .bad e => ∃ h2 at2, o = .pan (.iface 39 (.int .i64 (e : Nat))) h2 ∧ RD h2 ri bv bs at2 0 ∧ Keep (rdHeap h ri at_) h2 [ri]

theorem reading_use {α : Type} {ri : Nat} {bv : AV} {bs : List UInt8} {at_ : Nat} {h : AH} (hr : RD h ri bv bs at_ 0) {g : FuncId} (hg : (E0.fn g).isSome = true) {caps : List AV} {d : Nat} {S : List Nat} {F : DR α} {Q : α → AH → Prop}
    (hdo : Con E0 sp0 100000 d g caps (rdHeap h ri at_) (RdP ri bv bs S at_ h F Q)) :
    Con E0 sp0 100000 (d + 1) 68 [.ptr ri 0, .fn (.func g) [] caps] h fun o => ∃ h', o = .ret (.tup []) h' ∧ RdO ri bv bs at_ S h F Q h' := by
  have hlt := hr.lt
  have hc := reading_con ri bv bs at_ h hr g hg caps d (fun h2 => ∃ x k, F = .ok x k ∧ RD h2 ri bv bs (at_ + k) 0 ∧ Keep (rdHeap h ri at_) h2 (ri :: S) ∧ Q x h2) (fun e h2 => ∃ e' at2, F = .bad e' ∧ e = (e' : Nat) ∧ RD h2 ri bv bs at2 0 ∧ Keep (rdHeap h ri at_) h2 [ri])
    (hdo.mono (fun o ho => by
      unfold RdP at ho
      split at ho
      · rename_i x k
        obtain ⟨h2, rfl, h3, h4, h5⟩ := ho
        exact .inl ⟨h2, rfl, x, k, rfl, h3, h4, h5⟩
      · rename_i e
        obtain ⟨h2, at2, rfl, h3, h4⟩ := ho
        refine .inr ⟨_, h2, .int .i64 (at2 : Nat), rfl, ?_, ?_, h3.get, e, at2, rfl, rfl, h3, h4⟩
        · rw [h4.get _ (by rw [rd_next]; omega) (by simp; omega), rd_0]
        · rw [h4.get _ (by rw [rd_next]; omega) (by simp; omega), rd_1]) (Nat.le_refl d))
  refine hc.mono (fun o ho => ?_) (Nat.le_refl _)
  obtain ⟨h', rfl, ho⟩ := ho
  refine ⟨h', rfl, ?_⟩
  rcases ho with ⟨x, k, rfl, h3, h4, h5⟩ | ⟨e, h2, ⟨e', at2, rfl, rfl, h3, h4⟩, h5, h6, h7⟩
  · exact ⟨h3, (keep_rd.trans h4).mono (fun j hj _ => by simpa using hj), h5⟩
  · have k1 : Keep h2 h' [ri] := ⟨Nat.le_of_eq h5.symm, fun j _ hj => h7 j (by simpa using hj)⟩
    exact ⟨h3.put hr.le k1 h6, ((keep_rd.trans h4).trans k1).mono (fun j hj _ => by simpa using hj)⟩
end Go.Proofs.Yteblojfcalgoeaa

/- Seat 1: codec's number and block. Conditions: none. -/
namespace Go.Proofs.Yteblojfcalgoeaa
open Go Go.RowKit
set_option maxRecDepth 100000
set_option linter.unusedSimpArgs false
set_option linter.unusedVariables false

/-- What a part of a reading comes to: a value, or a panic. -/
def TkO {α : Type} (ri : Nat) (bv : AV) (bs : List UInt8) (at_ : Nat) (h : AH) (F : DR α) (Q : α → AV → AH → Prop) (o : Out) : Prop :=
  match F with
  | .ok x k => ∃ v h2, o = .ret v h2 ∧ RD h2 ri bv bs (at_ + k) 0 ∧ Keep h h2 [ri] ∧ Q x v h2
  | .bad e => ∃ h2 at2, o = .pan (.iface 39 (.int .i64 (e : Nat))) h2 ∧ RD h2 ri bv bs at2 0 ∧ Keep h h2 [ri]

def takeF (n : Nat) (s : List UInt8) : DR (List UInt8) := if n ≤ s.length then .ok (s.take n) n else .bad 70

theorem take_use {ri : Nat} {bv : AV} {bs : List UInt8} {at_ : Nat} {h : AH} (hr : RD h ri bv bs at_ 0) {k : Nat} (hk : k < 18446744073709551616) (hl : bs.length ≤ 140737488355328) :
    Con E0 sp0 100000 2 70 [.ptr ri 0, .int .u64 k] h (TkO ri bv bs at_ h (takeF k (bs.drop at_)) fun x v h2 => BS h2 v x ∧ ∀ i ∈ ids v, i ∈ ids bv) := by
  refine (take_con ri bv bs at_ 0 h hr k hk hl).mono (fun o ho => ?_) (Nat.le_refl _)
  have hle := hr.le
  unfold TkO takeF
  rcases ho with ⟨h1, v, rfl, h2, h3⟩ | ⟨h1, rfl⟩
  · rw [if_pos (by simpa using h1)]
    refine ⟨v, _, rfl, hr.set (by omega), Keep.set h ri _, h2.keep (Keep.set h ri _) fun i hi => hr.ids_ne i (h3 i hi), h3⟩
  · rw [if_neg (by simpa using h1)]
    exact ⟨h, at_, rfl, hr, (Keep.refl h).mono (by simp)⟩

theorem andNot128 (n : Nat) (h : n < 256) : andNotI .u8 (n : Int) 128 = ((n % 128 : Nat) : Int) := by
  have key : ∀ n : Nat, n < 256 → andNotI .u8 (n : Int) 128 = ((n % 128 : Nat) : Int) := by decide +kernel
  exact key n h
theorem w_mul7 {i : Nat} (hi : i ≤ 9) : IntKind.i64.wrap (7 * (i : Int)) = ((7 * i : Nat) : Int) := by rw [wrap_i64 (by omega)]; norm_cast
theorem shl_nat (a b : Nat) (h : a * 2 ^ b < 18446744073709551616) : IntKind.u64.wrap ((a : Int) * 2 ^ b) = ((a * 2 ^ b : Nat) : Int) := by
  rw [← w_u64_in _ h]; norm_cast
theorem or_add (a b n : Nat) (ha : a < 2 ^ n) (h : a + b * 2 ^ n < 18446744073709551616) : orI .u64 (a : Int) ((b * 2 ^ n : Nat) : Int) = ((a + b * 2 ^ n : Nat) : Int) := by
  rw [or_u64 _ _ (by omega) (by omega)]
  congr 1
  rw [Nat.or_comm, Nat.mul_comm b, ← Nat.two_pow_add_eq_or_of_lt ha, Nat.add_comm]

theorem pow7 {i : Nat} (hi : i ≤ 9) : ∃ p, 2 ^ (7 * i) = p ∧ p ≤ 9223372036854775808 ∧ (i < 9 → p ≤ 72057594037927936) ∧ 2 ^ (7 * (i + 1)) = 128 * p ∧ (i = 9 → p = 9223372036854775808) := by
  refine ⟨_, rfl, ?_, fun h => ?_, ?_, fun h => by subst h; rfl⟩
  · exact Nat.pow_le_pow_right (n := 2) (by decide) (show 7 * i ≤ 63 by omega)
  · exact Nat.pow_le_pow_right (n := 2) (by decide) (show 7 * i ≤ 56 by omega)
  · rw [Nat.mul_add, Nat.pow_add]; omega

theorem number_con {ri : Nat} {bv : AV} {bs : List UInt8} {at_ : Nat} {h : AH} (hr : RD h ri bv bs at_ 0) (hl : bs.length ≤ 140737488355328) :
    Con E0 sp0 100000 3 75 [.ptr ri 0] h (TkO ri bv bs at_ h (numF 0 0 (bs.drop at_)) fun x v _ => v = .int .u64 (x : Nat) ∧ x < 18446744073709551616) := by
  refine Con.of_body rfl fn75 fun n hn => ⟨rfl, ?_⟩
  conv in slim _ _ _ => cbv
  simp only [go_sem, reduceIte, Nat.reduceEqDiff, Nat.reduceAdd, Nat.reduceMul, Nat.reduceSub, Int.reduceLE, Int.reduceLT, Int.reduceNe, Int.reduceToNat, Int.reducePow, Int.reduceAdd, Int.reduceMul, reduceCtorEq, true_and, and_true, cond_true, cond_false, List.map_cons, List.map_nil, Option.map_some, Option.map_none, List.getElem?_cons_zero, List.getElem?_cons_succ, ne_eq, not_false_eq_true, List.nil_append, List.append_nil, List.cons_append, List.contains_cons, List.contains_nil, Nat.reduceBEq, Bool.or_false, Bool.false_or, Bool.true_or, Bool.or_true]
  refine wLoop_inv (fun k fr h1 => ∃ i v, k = 10 - i ∧ i ≤ 9 ∧ fr 0 = .ptr ri 0 ∧ fr 3 = .int .u64 (v : Nat) ∧ fr 4 = .int .i64 (i : Nat) ∧ v < 2 ^ (7 * i) ∧ RD h1 ri bv bs (at_ + i) 0 ∧ Keep h h1 [ri] ∧ numF 0 0 (bs.drop at_) = numF i v (bs.drop (at_ + i))) ?_ 100000 10 _ _ (by omega)
    ⟨0, 0, rfl, by omega, by simp only [go_sem, reduceIte, Nat.reduceEqDiff, Nat.reduceAdd, Nat.reduceMul, Nat.reduceSub, Int.reduceLE, Int.reduceLT, Int.reduceNe, Int.reduceToNat, Int.reducePow, Int.reduceAdd, Int.reduceMul, reduceCtorEq, true_and, and_true, cond_true, cond_false, List.map_cons, List.map_nil, Option.map_some, Option.map_none, List.getElem?_cons_zero, List.getElem?_cons_succ, ne_eq, not_false_eq_true, List.nil_append, List.append_nil, List.cons_append, List.contains_cons, List.contains_nil, Nat.reduceBEq, Bool.or_false, Bool.false_or, Bool.true_or, Bool.or_true], by simp only [go_sem, reduceIte, Nat.reduceEqDiff, Nat.reduceAdd, Nat.reduceMul, Nat.reduceSub, Int.reduceLE, Int.reduceLT, Int.reduceNe, Int.reduceToNat, Int.reducePow, Int.reduceAdd, Int.reduceMul, reduceCtorEq, true_and, and_true, cond_true, cond_false, List.map_cons, List.map_nil, Option.map_some, Option.map_none, List.getElem?_cons_zero, List.getElem?_cons_succ, ne_eq, not_false_eq_true, List.nil_append, List.append_nil, List.cons_append, List.contains_cons, List.contains_nil, Nat.reduceBEq, Bool.or_false, Bool.false_or, Bool.true_or, Bool.or_true]; rfl, by simp only [go_sem, reduceIte, Nat.reduceEqDiff, Nat.reduceAdd, Nat.reduceMul, Nat.reduceSub, Int.reduceLE, Int.reduceLT, Int.reduceNe, Int.reduceToNat, Int.reducePow, Int.reduceAdd, Int.reduceMul, reduceCtorEq, true_and, and_true, cond_true, cond_false, List.map_cons, List.map_nil, Option.map_some, Option.map_none, List.getElem?_cons_zero, List.getElem?_cons_succ, ne_eq, not_false_eq_true, List.nil_append, List.append_nil, List.cons_append, List.contains_cons, List.contains_nil, Nat.reduceBEq, Bool.or_false, Bool.false_or, Bool.true_or, Bool.or_true]; rfl, by simp, hr, (Keep.refl h).mono (by simp), rfl⟩
  rintro k fr h1 ⟨i, v, rfl, hi, hf0, hf3, hf4, hv, hr1, hk1, hF⟩
  rw [hF]
  simp only [go_sem, reduceIte, Nat.reduceEqDiff, Nat.reduceAdd, Nat.reduceMul, Nat.reduceSub, Int.reduceLE, Int.reduceLT, Int.reduceNe, Int.reduceToNat, Int.reducePow, Int.reduceAdd, Int.reduceMul, reduceCtorEq, true_and, and_true, cond_true, cond_false, List.map_cons, List.map_nil, Option.map_some, Option.map_none, List.getElem?_cons_zero, List.getElem?_cons_succ, ne_eq, not_false_eq_true, List.nil_append, List.append_nil, List.cons_append, List.contains_cons, List.contains_nil, Nat.reduceBEq, Bool.or_false, Bool.false_or, Bool.true_or, Bool.or_true, hf0, hf3, hf4]
  obtain ⟨out, e1, ho⟩ := take_use hr1 (k := 1) (by omega) hl n hn
  have e1' : aCall E0 sp0 100000 n 70 [AV.ptr ri 0, AV.int IntKind.u64 1] h1 = some out := e1
  clear e1
  unfold TkO takeF at ho
  by_cases hav : 1 ≤ (bs.drop (at_ + i)).length
  case neg =>
    rw [if_neg hav] at ho
    have hnil : bs.drop (at_ + i) = [] := List.eq_nil_of_length_eq_zero (by omega)
    obtain ⟨h2, at2, rfl, hr2, hk2⟩ := ho
    simp only [go_sem, reduceIte, Nat.reduceEqDiff, Nat.reduceAdd, Nat.reduceMul, Nat.reduceSub, Int.reduceLE, Int.reduceLT, Int.reduceNe, Int.reduceToNat, Int.reducePow, Int.reduceAdd, Int.reduceMul, reduceCtorEq, true_and, and_true, cond_true, cond_false, List.map_cons, List.map_nil, Option.map_some, Option.map_none, List.getElem?_cons_zero, List.getElem?_cons_succ, ne_eq, not_false_eq_true, List.nil_append, List.append_nil, List.cons_append, List.contains_cons, List.contains_nil, Nat.reduceBEq, Bool.or_false, Bool.false_or, Bool.true_or, Bool.or_true, e1', hnil, numF, TkO]
    exact ⟨_, _, rfl, hr2, (hk1.trans hk2).mono (by simp)⟩
  case pos =>
  rw [if_pos hav] at ho
  obtain ⟨v1, h2, rfl, hr2, hk2, hb2, hi2⟩ := ho
  obtain ⟨c, rest, hcr⟩ : ∃ c rest, bs.drop (at_ + i) = c :: rest := by
    cases hd : bs.drop (at_ + i) with
    | nil => rw [hd] at hav; simp at hav
    | cons c rest => exact ⟨c, rest, rfl⟩
  have hrest : bs.drop (at_ + (i + 1)) = rest := by
    rw [← Nat.add_assoc, ← List.drop_drop, hcr]; rfl
  rw [hcr] at hb2 ⊢
  have hk3 : Keep h h2 [ri] := (hk1.trans hk2).mono (by simp)
  obtain ⟨p, e3, e4⟩ := index_bytes byte24 hb2 (k := .i64) (j := 0) (by simp)
  have e3' : aIndexAt E0 24 v1 (AV.int IntKind.i64 0) = some p := e3
  simp only [List.take_succ_cons, List.take_zero, List.getElem_cons_zero] at e4
  have hc := c.toNat_lt
  have hc256 : c.toNat < 256 := hc
  obtain ⟨q, hq, hq1, hq2, hq3, hq4⟩ := pow7 hi
  have hmt : ∀ e, aCall E0 sp0 100000 n 78 [.bool true, .int .i64 e] h2 = some (.ret (.tup []) h2) := fun e => by
    obtain ⟨o, h1, rfl⟩ := must_t e h2 n (by omega); exact h1
  have hmf : ∀ e, aCall E0 sp0 100000 n 78 [.bool false, .int .i64 e] h2 = some (.pan (.iface 39 (.int .i64 e)) h2) := fun e => by
    obtain ⟨o, h1, rfl⟩ := must_f e h2 n (by omega); exact h1
  by_cases hc1 : i < 9 ∨ c.toNat ≤ 1
  case neg =>
    have d1 : decide ((i : Int) < 9) = false := decide_eq_false (by omega)
    have d2 : decide ((c.toNat : Int) ≤ 1) = false := decide_eq_false (by omega)
    simp only [go_sem, reduceIte, Nat.reduceEqDiff, Nat.reduceAdd, Nat.reduceMul, Nat.reduceSub, Int.reduceLE, Int.reduceLT, Int.reduceNe, Int.reduceToNat, Int.reducePow, Int.reduceAdd, Int.reduceMul, reduceCtorEq, true_and, and_true, cond_true, cond_false, List.map_cons, List.map_nil, Option.map_some, Option.map_none, List.getElem?_cons_zero, List.getElem?_cons_succ, ne_eq, not_false_eq_true, List.nil_append, List.append_nil, List.cons_append, List.contains_cons, List.contains_nil, Nat.reduceBEq, Bool.or_false, Bool.false_or, Bool.true_or, Bool.or_true, hf0, hf3, hf4, e1', e3', e4, d1, d2, hmf, numF, TkO, if_neg hc1]
    exact ⟨_, _, rfl, hr2, hk3⟩
  case pos =>
  have em : min (7 * i) 64 = 7 * i := by omega
  have hm : c.toNat % 128 * 2 ^ (7 * i) ≤ 127 * q := by rw [hq]; exact Nat.mul_le_mul_right _ (by omega)
  have hm9 : i = 9 → c.toNat % 128 * 2 ^ (7 * i) ≤ q := fun e => by rw [hq]; have : c.toNat % 128 ≤ 1 := by omega
                                                                    exact Nat.le_trans (Nat.mul_le_mul_right _ this) (by omega)
  rw [hq] at hv
  have hb : c.toNat % 128 * 2 ^ (7 * i) < 18446744073709551616 - v := by
    rcases Nat.lt_or_ge i 9 with h9 | h9
    · have := hq2 h9; omega
    · have := hm9 (by omega); have := hq4 (by omega); omega
  have o1 := shl_nat (c.toNat % 128) (7 * i) (by omega)
  have o2 := or_add v (c.toNat % 128) (7 * i) (by rw [hq]; exact hv) (by omega)
  have c1 : (decide ((i : Int) < 9) = true) ∨ (decide ((i : Int) < 9) = false ∧ decide ((c.toNat : Int) ≤ 1) = true) := by
    by_cases h9 : i < 9
    · exact .inl (decide_eq_true (by omega))
    · exact .inr ⟨decide_eq_false (by omega), decide_eq_true (by omega)⟩
  by_cases hc2 : c.toNat < 128
  case neg =>
    have d3 : decide ((c.toNat : Int) < 128) = false := decide_eq_false (by omega)
    have hw1 : v + c.toNat % 128 * 2 ^ (7 * i) < 2 ^ (7 * (i + 1)) := by rw [hq3]; omega
    have hF2 : numF i v (c :: rest) = numF (i + 1) (v + c.toNat % 128 * 2 ^ (7 * i)) rest := by rw [numF, if_pos hc1, if_neg hc2]
    rcases c1 with d1 | ⟨d1, d2⟩
    · simp only [go_sem, reduceIte, Nat.reduceEqDiff, Nat.reduceAdd, Nat.reduceMul, Nat.reduceSub, Int.reduceLE, Int.reduceLT, Int.reduceNe, Int.reduceToNat, Int.reducePow, Int.reduceAdd, Int.reduceMul, reduceCtorEq, true_and, and_true, cond_true, cond_false, List.map_cons, List.map_nil, Option.map_some, Option.map_none, List.getElem?_cons_zero, List.getElem?_cons_succ, ne_eq, not_false_eq_true, List.nil_append, List.append_nil, List.cons_append, List.contains_cons, List.contains_nil, Nat.reduceBEq, Bool.or_false, Bool.false_or, Bool.true_or, Bool.or_true, hf0, hf3, hf4, e1', e3', e4, d1, d3, hmt, andNot128 _ hc256, w_u64_in (c.toNat % 128) (by omega), w_mul7 hi, Int.natCast_nonneg, Int.toNat_natCast, em, o1, o2, w_inc (show i ≤ 1000000000 by omega)]
      refine ⟨10 - (i + 1), by omega, i + 1, _, rfl, by omega, rfl, rfl, hw1, by rw [Nat.add_assoc] at hr2; exact hr2, hk3, by rw [hF2, hrest]⟩
    · have := of_decide_eq_true d2; omega
  case pos =>
    have d3 : decide ((c.toNat : Int) < 128) = true := decide_eq_true (by omega)
    by_cases hc3 : 0 < c.toNat ∨ i = 0
    case pos =>
      have c3 : (decide ((0 : Int) < (c.toNat : Int)) = true) ∨ (decide ((0 : Int) < (c.toNat : Int)) = false ∧ ((i : Int) == 0) = true) := by
        by_cases h9 : 0 < c.toNat
        · exact .inl (decide_eq_true (by omega))
        · exact .inr ⟨decide_eq_false (by omega), by simp; omega⟩
      have hF2 : numF i v (c :: rest) = .ok (v + c.toNat % 128 * 2 ^ (7 * i)) (i + 1) := by rw [numF, if_pos hc1, if_pos hc2, if_pos hc3]
      rw [Nat.add_assoc] at hr2
      rw [hF2]
      rcases c1 with d1 | ⟨d1, d2⟩ <;> rcases c3 with d4 | ⟨d4, d5⟩
      · simp only [go_sem, reduceIte, Nat.reduceEqDiff, Nat.reduceAdd, Nat.reduceMul, Nat.reduceSub, Int.reduceLE, Int.reduceLT, Int.reduceNe, Int.reduceToNat, Int.reducePow, Int.reduceAdd, Int.reduceMul, reduceCtorEq, true_and, and_true, cond_true, cond_false, List.map_cons, List.map_nil, Option.map_some, Option.map_none, List.getElem?_cons_zero, List.getElem?_cons_succ, ne_eq, not_false_eq_true, List.nil_append, List.append_nil, List.cons_append, List.contains_cons, List.contains_nil, Nat.reduceBEq, Bool.or_false, Bool.false_or, Bool.true_or, Bool.or_true, hf0, hf3, hf4, e1', e3', e4, d1, d3, d4, hmt, andNot128 _ hc256, w_u64_in (c.toNat % 128) (by omega), w_mul7 hi, Int.natCast_nonneg, Int.toNat_natCast, em, o1, o2, aResults_one (F := Try.f75) rfl, TkO]
        exact ⟨_, _, rfl, hr2, hk3, rfl, by omega⟩
      · simp only [go_sem, reduceIte, Nat.reduceEqDiff, Nat.reduceAdd, Nat.reduceMul, Nat.reduceSub, Int.reduceLE, Int.reduceLT, Int.reduceNe, Int.reduceToNat, Int.reducePow, Int.reduceAdd, Int.reduceMul, reduceCtorEq, true_and, and_true, cond_true, cond_false, List.map_cons, List.map_nil, Option.map_some, Option.map_none, List.getElem?_cons_zero, List.getElem?_cons_succ, ne_eq, not_false_eq_true, List.nil_append, List.append_nil, List.cons_append, List.contains_cons, List.contains_nil, Nat.reduceBEq, Bool.or_false, Bool.false_or, Bool.true_or, Bool.or_true, hf0, hf3, hf4, e1', e3', e4, d1, d3, d4, d5, hmt, andNot128 _ hc256, w_u64_in (c.toNat % 128) (by omega), w_mul7 hi, Int.natCast_nonneg, Int.toNat_natCast, em, o1, o2, aResults_one (F := Try.f75) rfl, TkO]
        exact ⟨_, _, rfl, hr2, hk3, rfl, by omega⟩
      · simp only [go_sem, reduceIte, Nat.reduceEqDiff, Nat.reduceAdd, Nat.reduceMul, Nat.reduceSub, Int.reduceLE, Int.reduceLT, Int.reduceNe, Int.reduceToNat, Int.reducePow, Int.reduceAdd, Int.reduceMul, reduceCtorEq, true_and, and_true, cond_true, cond_false, List.map_cons, List.map_nil, Option.map_some, Option.map_none, List.getElem?_cons_zero, List.getElem?_cons_succ, ne_eq, not_false_eq_true, List.nil_append, List.append_nil, List.cons_append, List.contains_cons, List.contains_nil, Nat.reduceBEq, Bool.or_false, Bool.false_or, Bool.true_or, Bool.or_true, hf0, hf3, hf4, e1', e3', e4, d1, d2, d3, d4, hmt, andNot128 _ hc256, w_u64_in (c.toNat % 128) (by omega), w_mul7 hi, Int.natCast_nonneg, Int.toNat_natCast, em, o1, o2, aResults_one (F := Try.f75) rfl, TkO]
        exact ⟨_, _, rfl, hr2, hk3, rfl, by omega⟩
      · simp only [go_sem, reduceIte, Nat.reduceEqDiff, Nat.reduceAdd, Nat.reduceMul, Nat.reduceSub, Int.reduceLE, Int.reduceLT, Int.reduceNe, Int.reduceToNat, Int.reducePow, Int.reduceAdd, Int.reduceMul, reduceCtorEq, true_and, and_true, cond_true, cond_false, List.map_cons, List.map_nil, Option.map_some, Option.map_none, List.getElem?_cons_zero, List.getElem?_cons_succ, ne_eq, not_false_eq_true, List.nil_append, List.append_nil, List.cons_append, List.contains_cons, List.contains_nil, Nat.reduceBEq, Bool.or_false, Bool.false_or, Bool.true_or, Bool.or_true, hf0, hf3, hf4, e1', e3', e4, d1, d2, d3, d4, d5, hmt, andNot128 _ hc256, w_u64_in (c.toNat % 128) (by omega), w_mul7 hi, Int.natCast_nonneg, Int.toNat_natCast, em, o1, o2, aResults_one (F := Try.f75) rfl, TkO]
        exact ⟨_, _, rfl, hr2, hk3, rfl, by omega⟩
    case neg =>
      have d4 : decide ((0 : Int) < (c.toNat : Int)) = false := decide_eq_false (by omega)
      have d5 : ((i : Int) == 0) = false := by simp; omega
      have hF2 : numF i v (c :: rest) = .bad 71 := by rw [numF, if_pos hc1, if_pos hc2, if_neg hc3]
      rw [hF2]
      rcases c1 with d1 | ⟨d1, d2⟩
      · simp only [go_sem, reduceIte, Nat.reduceEqDiff, Nat.reduceAdd, Nat.reduceMul, Nat.reduceSub, Int.reduceLE, Int.reduceLT, Int.reduceNe, Int.reduceToNat, Int.reducePow, Int.reduceAdd, Int.reduceMul, reduceCtorEq, true_and, and_true, cond_true, cond_false, List.map_cons, List.map_nil, Option.map_some, Option.map_none, List.getElem?_cons_zero, List.getElem?_cons_succ, ne_eq, not_false_eq_true, List.nil_append, List.append_nil, List.cons_append, List.contains_cons, List.contains_nil, Nat.reduceBEq, Bool.or_false, Bool.false_or, Bool.true_or, Bool.or_true, hf0, hf3, hf4, e1', e3', e4, d1, d3, d4, d5, hmt, hmf, andNot128 _ hc256, w_u64_in (c.toNat % 128) (by omega), w_mul7 hi, Int.natCast_nonneg, Int.toNat_natCast, em, o1, o2, TkO]
        exact ⟨_, _, rfl, hr2, hk3⟩
      · simp only [go_sem, reduceIte, Nat.reduceEqDiff, Nat.reduceAdd, Nat.reduceMul, Nat.reduceSub, Int.reduceLE, Int.reduceLT, Int.reduceNe, Int.reduceToNat, Int.reducePow, Int.reduceAdd, Int.reduceMul, reduceCtorEq, true_and, and_true, cond_true, cond_false, List.map_cons, List.map_nil, Option.map_some, Option.map_none, List.getElem?_cons_zero, List.getElem?_cons_succ, ne_eq, not_false_eq_true, List.nil_append, List.append_nil, List.cons_append, List.contains_cons, List.contains_nil, Nat.reduceBEq, Bool.or_false, Bool.false_or, Bool.true_or, Bool.or_true, hf0, hf3, hf4, e1', e3', e4, d1, d2, d3, d4, d5, hmt, hmf, andNot128 _ hc256, w_u64_in (c.toNat % 128) (by omega), w_mul7 hi, Int.natCast_nonneg, Int.toNat_natCast, em, o1, o2, TkO]
        exact ⟨_, _, rfl, hr2, hk3⟩

theorem block_con {ri : Nat} {bv : AV} {bs : List UInt8} {at_ : Nat} {h : AH} (hr : RD h ri bv bs at_ 0) (hl : bs.length ≤ 140737488355328) (most : Nat) (hm : most ≤ 1000000) :
    Con E0 sp0 100000 4 79 [.ptr ri 0, .int .i64 most] h (TkO ri bv bs at_ h (blockF most (bs.drop at_)) fun x v h2 => BS h2 v x ∧ ∀ i ∈ ids v, i ∈ ids bv) := by
  refine Con.of_body rfl fn79 fun n hn => ⟨rfl, ?_⟩
  conv in slim _ _ _ => cbv
  obtain ⟨out, e1, ho⟩ := number_con hr hl n hn
  unfold blockF
  cases hF : numF 0 0 (bs.drop at_) with
  | bad e =>
    rw [hF] at ho
    obtain ⟨h2, at2, rfl, hr2, hk2⟩ := ho
    simp only [go_sem, reduceIte, Nat.reduceEqDiff, Nat.reduceAdd, Nat.reduceMul, Nat.reduceSub, Int.reduceLE, Int.reduceLT, Int.reduceNe, Int.reduceToNat, Int.reducePow, Int.reduceAdd, Int.reduceMul, reduceCtorEq, true_and, and_true, cond_true, cond_false, List.map_cons, List.map_nil, Option.map_some, Option.map_none, List.getElem?_cons_zero, List.getElem?_cons_succ, ne_eq, not_false_eq_true, List.nil_append, List.append_nil, List.cons_append, List.contains_cons, List.contains_nil, Nat.reduceBEq, Bool.or_false, Bool.false_or, Bool.true_or, Bool.or_true, e1, TkO]
    exact ⟨_, _, rfl, hr2, hk2⟩
  | ok x k =>
    rw [hF] at ho
    obtain ⟨v, h2, rfl, hr2, hk2, rfl, hx⟩ := ho
    by_cases hc : x ≤ most
    case neg =>
      obtain ⟨_, e2, rfl⟩ := must_f 71 h2 n (by omega)
      have d1 : decide ((x : Int) ≤ (most : Int)) = false := decide_eq_false (by omega)
      simp only [go_sem, reduceIte, Nat.reduceEqDiff, Nat.reduceAdd, Nat.reduceMul, Nat.reduceSub, Int.reduceLE, Int.reduceLT, Int.reduceNe, Int.reduceToNat, Int.reducePow, Int.reduceAdd, Int.reduceMul, reduceCtorEq, true_and, and_true, cond_true, cond_false, List.map_cons, List.map_nil, Option.map_some, Option.map_none, List.getElem?_cons_zero, List.getElem?_cons_succ, ne_eq, not_false_eq_true, List.nil_append, List.append_nil, List.cons_append, List.contains_cons, List.contains_nil, Nat.reduceBEq, Bool.or_false, Bool.false_or, Bool.true_or, Bool.or_true, e1, w_u64_in most (by omega), d1, e2, if_neg hc, TkO]
      exact ⟨_, _, rfl, hr2, hk2⟩
    case pos =>
      obtain ⟨_, e2, rfl⟩ := must_t 71 h2 n (by omega)
      have d1 : decide ((x : Int) ≤ (most : Int)) = true := decide_eq_true (by omega)
      obtain ⟨out, e3, ho⟩ := take_use hr2 hx hl n (by omega)
      unfold takeF at ho
      rw [← List.drop_drop] at ho
      have hlen : (bs.drop at_).length - k = ((bs.drop at_).drop k).length := by simp; omega
      by_cases hc2 : x ≤ ((bs.drop at_).drop k).length
      case neg =>
        rw [if_neg hc2] at ho
        obtain ⟨h3, at2, rfl, hr3, hk3⟩ := ho
        simp only [go_sem, reduceIte, Nat.reduceEqDiff, Nat.reduceAdd, Nat.reduceMul, Nat.reduceSub, Int.reduceLE, Int.reduceLT, Int.reduceNe, Int.reduceToNat, Int.reducePow, Int.reduceAdd, Int.reduceMul, reduceCtorEq, true_and, and_true, cond_true, cond_false, List.map_cons, List.map_nil, Option.map_some, Option.map_none, List.getElem?_cons_zero, List.getElem?_cons_succ, ne_eq, not_false_eq_true, List.nil_append, List.append_nil, List.cons_append, List.contains_cons, List.contains_nil, Nat.reduceBEq, Bool.or_false, Bool.false_or, Bool.true_or, Bool.or_true, e1, w_u64_in most (by omega), d1, e2, e3, if_pos hc, hlen, if_neg hc2, TkO]
        exact ⟨_, _, rfl, hr3, (hk2.trans hk3).mono (by simp)⟩
      case pos =>
        rw [if_pos hc2] at ho
        obtain ⟨v3, h3, rfl, hr3, hk3, hb3, hi3⟩ := ho
        simp only [go_sem, reduceIte, Nat.reduceEqDiff, Nat.reduceAdd, Nat.reduceMul, Nat.reduceSub, Int.reduceLE, Int.reduceLT, Int.reduceNe, Int.reduceToNat, Int.reducePow, Int.reduceAdd, Int.reduceMul, reduceCtorEq, true_and, and_true, cond_true, cond_false, List.map_cons, List.map_nil, Option.map_some, Option.map_none, List.getElem?_cons_zero, List.getElem?_cons_succ, ne_eq, not_false_eq_true, List.nil_append, List.append_nil, List.cons_append, List.contains_cons, List.contains_nil, Nat.reduceBEq, Bool.or_false, Bool.false_or, Bool.true_or, Bool.or_true, e1, w_u64_in most (by omega), d1, e2, e3, if_pos hc, hlen, if_pos hc2, TkO, aResults_one (F := Try.f79) rfl]
        exact ⟨_, _, rfl, by rw [← Nat.add_assoc]; exact hr3, (hk2.trans hk3).mono (by simp), hb3, hi3⟩
end Go.Proofs.Yteblojfcalgoeaa
