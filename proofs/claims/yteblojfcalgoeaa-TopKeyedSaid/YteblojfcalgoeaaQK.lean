/- Parts of the abstract machine and of its laws, joined. Conditions: none. -/
import Derived.Test.YteblojfcalgoeaaQM
import Derived.Test.YteblojfcalgoeaaQF
import Derived.Test.YteblojfcalgoeaaQW
import Derived.Test.YteblojfcalgoeaaQD
import Derived.Test.YteblojfcalgoeaaQX
set_option linter.unusedVariables false
set_option linter.unusedSimpArgs false
/- Seat 1: naming's digits and values; beginnings of texts. Conditions: none. -/
namespace Go.Proofs.Yteblojfcalgoeaa
open Go Go.RowKit
set_option maxRecDepth 100000
set_option linter.unusedSimpArgs false
set_option linter.unusedVariables false

def digitN (n : Nat) : Nat := if n < 10 then 48 + n else 87 + n
def valueN (c : Nat) : Option Nat := if 48 ≤ c ∧ c ≤ 57 then some (c - 48) else if 97 ≤ c ∧ c ≤ 102 then some (c - 87) else none

theorem digit_con (n : Nat) (hn : n < 16) (h : AH) : Con E0 sp0 100000 1 99 [.int .u8 n] h fun o => o = .ret (.int .u8 (digitN n)) h := by
  refine Con.of_body rfl (show E0.fn 99 = some Try.f99 by kernel_rfl) fun k _ => body99 ?_
  unfold digitN
  by_cases hc : n < 10
  · have d : decide ((n : Int) < 10) = true := decide_eq_true (by omega)
    have e : IntKind.u8.wrap (48 + (n : Int)) = ((48 + n : Nat) : Int) := by rw [← w_u8_in (48 + n) (by omega)]; norm_cast
    simp only [go_sem, reduceIte, Nat.reduceEqDiff, Nat.reduceAdd, Nat.reduceMul, Nat.reduceSub, Int.reduceLE, Int.reduceLT, Int.reduceNe, Int.reduceToNat, Int.reducePow, Int.reduceAdd, Int.reduceMul, reduceCtorEq, true_and, and_true, cond_true, cond_false, List.map_cons, List.map_nil, Option.map_some, Option.map_none, List.getElem?_cons_zero, List.getElem?_cons_succ, ne_eq, not_false_eq_true, List.nil_append, List.append_nil, List.cons_append, List.contains_cons, List.contains_nil, Nat.reduceBEq, Bool.or_false, Bool.false_or, Bool.true_or, Bool.or_true, d, e, if_pos hc]
  · have d : decide ((n : Int) < 10) = false := decide_eq_false (by omega)
    have e : IntKind.u8.wrap (97 + (n : Int)) = ((97 + n : Nat) : Int) := by rw [← w_u8_in (97 + n) (by omega)]; norm_cast
    have e2 : IntKind.u8.wrap (((97 + n : Nat) : Int) - 10) = ((87 + n : Nat) : Int) := by rw [← w_u8_in (87 + n) (by omega)]; congr 1; omega
    simp only [go_sem, reduceIte, Nat.reduceEqDiff, Nat.reduceAdd, Nat.reduceMul, Nat.reduceSub, Int.reduceLE, Int.reduceLT, Int.reduceNe, Int.reduceToNat, Int.reducePow, Int.reduceAdd, Int.reduceMul, reduceCtorEq, true_and, and_true, cond_true, cond_false, List.map_cons, List.map_nil, Option.map_some, Option.map_none, List.getElem?_cons_zero, List.getElem?_cons_succ, ne_eq, not_false_eq_true, List.nil_append, List.append_nil, List.cons_append, List.contains_cons, List.contains_nil, Nat.reduceBEq, Bool.or_false, Bool.false_or, Bool.true_or, Bool.or_true, d, e, e2, if_neg hc]

theorem value_con (c : Nat) (hc : c < 256) (h : AH) : Con E0 sp0 100000 1 101 [.int .u8 c] h fun o => o = .ret (.tup [.int .u8 (((valueN c).getD 0 : Nat) : Int), .bool (valueN c).isSome]) h := by
  refine Con.of_body rfl (show E0.fn 101 = some Try.f101 by kernel_rfl) fun k _ => body101 ?_
  unfold valueN
  by_cases h1 : 48 ≤ c ∧ c ≤ 57
  · have d1 : decide ((48 : Int) ≤ (c : Int)) = true := decide_eq_true (by omega)
    have d2 : decide ((c : Int) ≤ 57) = true := decide_eq_true (by omega)
    have e : IntKind.u8.wrap ((c : Int) - 48) = ((c - 48 : Nat) : Int) := by rw [← w_u8_in (c - 48) (by omega)]; congr 1; omega
    simp only [go_sem, reduceIte, Nat.reduceEqDiff, Nat.reduceAdd, Nat.reduceMul, Nat.reduceSub, Int.reduceLE, Int.reduceLT, Int.reduceNe, Int.reduceToNat, Int.reducePow, Int.reduceAdd, Int.reduceMul, reduceCtorEq, true_and, and_true, cond_true, cond_false, List.map_cons, List.map_nil, Option.map_some, Option.map_none, List.getElem?_cons_zero, List.getElem?_cons_succ, ne_eq, not_false_eq_true, List.nil_append, List.append_nil, List.cons_append, List.contains_cons, List.contains_nil, Nat.reduceBEq, Bool.or_false, Bool.false_or, Bool.true_or, Bool.or_true, d1, d2, e, if_pos h1, Option.getD_some, Option.isSome_some]
  · by_cases h2 : 97 ≤ c ∧ c ≤ 102
    · have d1 : decide ((c : Int) ≤ 57) = false := decide_eq_false (by omega)
      have d0 : decide ((48 : Int) ≤ (c : Int)) = true := decide_eq_true (by omega)
      have d2 : decide ((97 : Int) ≤ (c : Int)) = true := decide_eq_true (by omega)
      have d3 : decide ((c : Int) ≤ 102) = true := decide_eq_true (by omega)
      have e : IntKind.u8.wrap ((c : Int) - 97) = ((c - 97 : Nat) : Int) := by rw [← w_u8_in (c - 97) (by omega)]; congr 1; omega
      have e2 : IntKind.u8.wrap (((c - 97 : Nat) : Int) + 10) = ((c - 87 : Nat) : Int) := by rw [← w_u8_in (c - 87) (by omega)]; congr 1; omega
      simp only [go_sem, reduceIte, Nat.reduceEqDiff, Nat.reduceAdd, Nat.reduceMul, Nat.reduceSub, Int.reduceLE, Int.reduceLT, Int.reduceNe, Int.reduceToNat, Int.reducePow, Int.reduceAdd, Int.reduceMul, reduceCtorEq, true_and, and_true, cond_true, cond_false, List.map_cons, List.map_nil, Option.map_some, Option.map_none, List.getElem?_cons_zero, List.getElem?_cons_succ, ne_eq, not_false_eq_true, List.nil_append, List.append_nil, List.cons_append, List.contains_cons, List.contains_nil, Nat.reduceBEq, Bool.or_false, Bool.false_or, Bool.true_or, Bool.or_true, d0, d1, d2, d3, e, e2, if_neg h1, if_pos h2, Option.getD_some, Option.isSome_some]
    · rcases Nat.lt_or_ge c 48 with a | a
      · have d0 : decide ((48 : Int) ≤ (c : Int)) = false := decide_eq_false (by omega)
        have d2 : decide ((97 : Int) ≤ (c : Int)) = false := decide_eq_false (by omega)
        simp only [go_sem, reduceIte, Nat.reduceEqDiff, Nat.reduceAdd, Nat.reduceMul, Nat.reduceSub, Int.reduceLE, Int.reduceLT, Int.reduceNe, Int.reduceToNat, Int.reducePow, Int.reduceAdd, Int.reduceMul, reduceCtorEq, true_and, and_true, cond_true, cond_false, List.map_cons, List.map_nil, Option.map_some, Option.map_none, List.getElem?_cons_zero, List.getElem?_cons_succ, ne_eq, not_false_eq_true, List.nil_append, List.append_nil, List.cons_append, List.contains_cons, List.contains_nil, Nat.reduceBEq, Bool.or_false, Bool.false_or, Bool.true_or, Bool.or_true, d0, d2, if_neg h1, if_neg h2, Option.getD_none, Option.isSome_none]
        rfl
      · have d0 : decide ((48 : Int) ≤ (c : Int)) = true := decide_eq_true (by omega)
        have d1 : decide ((c : Int) ≤ 57) = false := decide_eq_false (by omega)
        rcases Nat.lt_or_ge c 97 with b | b
        · have d2 : decide ((97 : Int) ≤ (c : Int)) = false := decide_eq_false (by omega)
          simp only [go_sem, reduceIte, Nat.reduceEqDiff, Nat.reduceAdd, Nat.reduceMul, Nat.reduceSub, Int.reduceLE, Int.reduceLT, Int.reduceNe, Int.reduceToNat, Int.reducePow, Int.reduceAdd, Int.reduceMul, reduceCtorEq, true_and, and_true, cond_true, cond_false, List.map_cons, List.map_nil, Option.map_some, Option.map_none, List.getElem?_cons_zero, List.getElem?_cons_succ, ne_eq, not_false_eq_true, List.nil_append, List.append_nil, List.cons_append, List.contains_cons, List.contains_nil, Nat.reduceBEq, Bool.or_false, Bool.false_or, Bool.true_or, Bool.or_true, d0, d1, d2, if_neg h1, if_neg h2, Option.getD_none, Option.isSome_none]
          rfl
        · have d2 : decide ((97 : Int) ≤ (c : Int)) = true := decide_eq_true (by omega)
          have d3 : decide ((c : Int) ≤ 102) = false := decide_eq_false (by omega)
          simp only [go_sem, reduceIte, Nat.reduceEqDiff, Nat.reduceAdd, Nat.reduceMul, Nat.reduceSub, Int.reduceLE, Int.reduceLT, Int.reduceNe, Int.reduceToNat, Int.reducePow, Int.reduceAdd, Int.reduceMul, reduceCtorEq, true_and, and_true, cond_true, cond_false, List.map_cons, List.map_nil, Option.map_some, Option.map_none, List.getElem?_cons_zero, List.getElem?_cons_succ, ne_eq, not_false_eq_true, List.nil_append, List.append_nil, List.cons_append, List.contains_cons, List.contains_nil, Nat.reduceBEq, Bool.or_false, Bool.false_or, Bool.true_or, Bool.or_true, d0, d1, d2, d3, if_neg h1, if_neg h2, Option.getD_none, Option.isSome_none]
          rfl

@[go_sem] theorem len_str9 {h : AH} {s : List UInt8} : qBuiltin E0 h .len [.str s] [9] = some (.int .i64 (s.length : Nat)) := len_str str9
/-- A text begins with another. -/
def prefB (s p : List UInt8) : Bool := decide (p.length ≤ s.length) && (s.take p.length == p)
theorem hasPre_con (s p : List UInt8) (h : AH) : Con E0 sp0 100000 1 128 [.str s, .str p] h fun o => o = .ret (.bool (prefB s p)) h := by
  refine Con.of_body rfl (show E0.fn 128 = some Try.f128 by kernel_rfl) fun k _ => body128 ?_
  unfold prefB
  by_cases hc : p.length ≤ s.length
  · have d : decide ((p.length : Int) ≤ (s.length : Int)) = true := decide_eq_true (by omega)
    have e := slice_str (E := E0) (t := 9) (s := s) (lo := none) (hi := some (.int .i64 (p.length : Nat))) (a := 0) (b := p.length) str9 (.inl ⟨rfl, rfl⟩) (.inr ⟨_, rfl⟩) (by omega) hc
    rw [List.drop_zero, Nat.sub_zero] at e
    simp only [go_sem, reduceIte, Nat.reduceEqDiff, Nat.reduceAdd, Nat.reduceMul, Nat.reduceSub, Int.reduceLE, Int.reduceLT, Int.reduceNe, Int.reduceToNat, Int.reducePow, Int.reduceAdd, Int.reduceMul, reduceCtorEq, true_and, and_true, cond_true, cond_false, List.map_cons, List.map_nil, Option.map_some, Option.map_none, List.getElem?_cons_zero, List.getElem?_cons_succ, ne_eq, not_false_eq_true, List.nil_append, List.append_nil, List.cons_append, List.contains_cons, List.contains_nil, Nat.reduceBEq, Bool.or_false, Bool.false_or, Bool.true_or, Bool.or_true, d, e, decide_eq_true hc, Bool.true_and]
  · have d : decide ((p.length : Int) ≤ (s.length : Int)) = false := decide_eq_false (by omega)
    simp only [go_sem, reduceIte, Nat.reduceEqDiff, Nat.reduceAdd, Nat.reduceMul, Nat.reduceSub, Int.reduceLE, Int.reduceLT, Int.reduceNe, Int.reduceToNat, Int.reducePow, Int.reduceAdd, Int.reduceMul, reduceCtorEq, true_and, and_true, cond_true, cond_false, List.map_cons, List.map_nil, Option.map_some, Option.map_none, List.getElem?_cons_zero, List.getElem?_cons_succ, ne_eq, not_false_eq_true, List.nil_append, List.append_nil, List.cons_append, List.contains_cons, List.contains_nil, Nat.reduceBEq, Bool.or_false, Bool.false_or, Bool.true_or, Bool.or_true, d, decide_eq_false hc, Bool.false_and]
theorem hasPrefix_con (s p : List UInt8) (h : AH) : Con E0 sp0 100000 2 102 [.str s, .str p] h fun o => o = .ret (.bool (prefB s p)) h := by
  refine Con.of_body rfl (show E0.fn 102 = some Try.f102 by kernel_rfl) fun k hk => body102 ?_
  obtain ⟨_, e, rfl⟩ := hasPre_con s p h k (by omega)
  simp only [go_sem, reduceIte, Nat.reduceEqDiff, Nat.reduceAdd, Nat.reduceMul, Nat.reduceSub, Int.reduceLE, Int.reduceLT, Int.reduceNe, Int.reduceToNat, Int.reducePow, Int.reduceAdd, Int.reduceMul, reduceCtorEq, true_and, and_true, cond_true, cond_false, List.map_cons, List.map_nil, Option.map_some, Option.map_none, List.getElem?_cons_zero, List.getElem?_cons_succ, ne_eq, not_false_eq_true, List.nil_append, List.append_nil, List.cons_append, List.contains_cons, List.contains_nil, Nat.reduceBEq, Bool.or_false, Bool.false_or, Bool.true_or, Bool.or_true, st_callf (show (E0.fn 128).isSome = true by kernel_rfl), e]
theorem cutPre_con (s p : List UInt8) (h : AH) : Con E0 sp0 100000 2 127 [.str s, .str p] h fun o => o = .ret (.tup [.str (bif prefB s p then s.drop p.length else s), .bool (prefB s p)]) h := by
  refine Con.of_body rfl (show E0.fn 127 = some Try.f127 by kernel_rfl) fun k hk => body127 ?_
  obtain ⟨_, e, rfl⟩ := hasPre_con s p h k (by omega)
  cases hp : prefB s p with
  | false =>
    rw [hp] at e
    simp only [go_sem, reduceIte, Nat.reduceEqDiff, Nat.reduceAdd, Nat.reduceMul, Nat.reduceSub, Int.reduceLE, Int.reduceLT, Int.reduceNe, Int.reduceToNat, Int.reducePow, Int.reduceAdd, Int.reduceMul, reduceCtorEq, true_and, and_true, cond_true, cond_false, List.map_cons, List.map_nil, Option.map_some, Option.map_none, List.getElem?_cons_zero, List.getElem?_cons_succ, ne_eq, not_false_eq_true, List.nil_append, List.append_nil, List.cons_append, List.contains_cons, List.contains_nil, Nat.reduceBEq, Bool.or_false, Bool.false_or, Bool.true_or, Bool.or_true, st_callf (show (E0.fn 128).isSome = true by kernel_rfl), e]
  | true =>
    rw [hp] at e
    have hl : p.length ≤ s.length := by
      unfold prefB at hp
      simp at hp
      exact hp.1
    have e2 := slice_str (E := E0) (t := 9) (s := s) (lo := some (.int .i64 (p.length : Nat))) (hi := none) (a := p.length) (b := s.length) str9 (.inr ⟨_, rfl⟩) (.inl ⟨rfl, rfl⟩) hl (Nat.le_refl _)
    rw [List.take_of_length_le (by simp)] at e2
    simp only [go_sem, reduceIte, Nat.reduceEqDiff, Nat.reduceAdd, Nat.reduceMul, Nat.reduceSub, Int.reduceLE, Int.reduceLT, Int.reduceNe, Int.reduceToNat, Int.reducePow, Int.reduceAdd, Int.reduceMul, reduceCtorEq, true_and, and_true, cond_true, cond_false, List.map_cons, List.map_nil, Option.map_some, Option.map_none, List.getElem?_cons_zero, List.getElem?_cons_succ, ne_eq, not_false_eq_true, List.nil_append, List.append_nil, List.cons_append, List.contains_cons, List.contains_nil, Nat.reduceBEq, Bool.or_false, Bool.false_or, Bool.true_or, Bool.or_true, st_callf (show (E0.fn 128).isSome = true by kernel_rfl), e, e2]
theorem cutPrefix_con (s p : List UInt8) (h : AH) : Con E0 sp0 100000 3 100 [.str s, .str p] h fun o => o = .ret (.tup [.str (bif prefB s p then s.drop p.length else s), .bool (prefB s p)]) h := by
  refine Con.of_body rfl (show E0.fn 100 = some Try.f100 by kernel_rfl) fun k hk => body100 ?_
  obtain ⟨_, e, rfl⟩ := cutPre_con s p h k (by omega)
  simp only [go_sem, reduceIte, Nat.reduceEqDiff, Nat.reduceAdd, Nat.reduceMul, Nat.reduceSub, Int.reduceLE, Int.reduceLT, Int.reduceNe, Int.reduceToNat, Int.reducePow, Int.reduceAdd, Int.reduceMul, reduceCtorEq, true_and, and_true, cond_true, cond_false, List.map_cons, List.map_nil, Option.map_some, Option.map_none, List.getElem?_cons_zero, List.getElem?_cons_succ, ne_eq, not_false_eq_true, List.nil_append, List.append_nil, List.cons_append, List.contains_cons, List.contains_nil, Nat.reduceBEq, Bool.or_false, Bool.false_or, Bool.true_or, Bool.or_true, st_callf (show (E0.fn 127).isSome = true by kernel_rfl), e]
end Go.Proofs.Yteblojfcalgoeaa

/- Seat 1: naming's Object, Key, Kind. Conditions: none. -/
namespace Go.Proofs.Yteblojfcalgoeaa
open Go Go.RowKit
set_option maxRecDepth 100000
set_option linter.unusedSimpArgs false
set_option linter.unusedVariables false

theorem fn58 : E0.fn 58 = some Try.f58 := by kernel_rfl
theorem fn59 : E0.fn 59 = some Try.f59 := by kernel_rfl
theorem fn60 : E0.fn 60 = some Try.f60 := by kernel_rfl
@[go_sem] theorem call58 {K : Caller} {a b args : List AV} {h : AH} : callF E0 K (.fn (.func 58) a b) args h = callO (K 58 (a ++ args ++ b) h) := callF_func (by kernel_rfl)
@[go_sem] theorem call59 {K : Caller} {a b args : List AV} {h : AH} : callF E0 K (.fn (.func 59) a b) args h = callO (K 59 (a ++ args ++ b) h) := callF_func (by kernel_rfl)
@[go_sem] theorem call60 {K : Caller} {a b args : List AV} {h : AH} : callF E0 K (.fn (.func 60) a b) args h = callO (K 60 (a ++ args ++ b) h) := callF_func (by kernel_rfl)
@[go_sem] theorem call61 {K : Caller} {a b args : List AV} {h : AH} : callF E0 K (.fn (.func 61) a b) args h = callO (K 61 (a ++ args ++ b) h) := callF_func (by kernel_rfl)

def hexB (s : List UInt8) : List UInt8 := s.flatMap fun c => [UInt8.ofNat (digitN (c.toNat / 16)), UInt8.ofNat (digitN (c.toNat % 16))]
def nameB (s : List UInt8) : List UInt8 := 111 :: hexB s
theorem hexB_len (s : List UInt8) : (hexB s).length = 2 * s.length := by
  induction s with
  | nil => rfl
  | cons c s ih => simp only [hexB, List.flatMap_cons, List.length_append] at *; simp [ih]; omega
theorem hexB_append (a b : List UInt8) : hexB (a ++ b) = hexB a ++ hexB b := by simp [hexB]

theorem build_two {h : AH} {a b : Int} : aBuildSlice E0 h 24 2 [(0, .int .u8 a), (1, .int .u8 b)] = some (.sl h.next 0 2 2 false, h.push (.cells [.int .u8 a, .int .u8 b] 5 .own)) := by kernel_rfl
theorem bs_two {h : AH} {a b : Nat} (ha : a < 256) (hb : b < 256) : BS (h.push (.cells [.int .u8 (a : Int), .int .u8 (b : Int)] 5 .own)) (.sl h.next 0 2 2 false) [UInt8.ofNat a, UInt8.ofNat b] := by
  refine ⟨⟨rfl, by simp⟩, Nat.lt_succ_self _, _, _, _, by rw [get_push, if_pos rfl], by simp, ?_⟩
  simp [u8s, Nat.mod_eq_of_lt ha, Nat.mod_eq_of_lt hb]
theorem sl24 : slT E0 24 5 1 1 = true := by kernel_rfl
theorem zero5 : zeroT E0 5 = some (.int .u8 0) := by kernel_rfl
theorem repL_u8 : ∀ n, repL (AV.int .u8 0).cells n = u8s (List.replicate n 0)
  | 0 => rfl
  | n + 1 => by simp only [repL, repL_u8 n]; rfl
theorem digitN_lt {n : Nat} (h : n < 16) : digitN n < 256 := by unfold digitN; split <;> omega
theorem and15 (n : Nat) (h : n < 256) : andI .u8 (n : Int) 15 = ((n % 16 : Nat) : Int) := by
  have key : ∀ n : Nat, n < 256 → andI .u8 (n : Int) 15 = ((n % 16 : Nat) : Int) := by decide +kernel
  exact key n h
theorem shr4 (n : Nat) : (n : Int).fdiv (2 ^ min 4 8) = ((n / 16 : Nat) : Int) := by
  have := shr_nat n 4
  simpa using this
theorem w_2len {i : Nat} (hi : i ≤ 1000000000) : IntKind.i64.wrap (2 * (i : Int)) = ((2 * i : Nat) : Int) := by rw [wrap_i64 (by omega)]; norm_cast
theorem w_1add {i : Nat} (hi : i ≤ 1000000000) : IntKind.i64.wrap (1 + (i : Int)) = ((1 + i : Nat) : Int) := by rw [wrap_i64 (by omega)]; norm_cast

def objOK (s : List UInt8) : Bool := !(s == []) && decide (s.length ≤ 255)
theorem object_con (s : List UInt8) (h : AH) : Con E0 sp0 100000 2 58 [.str s] h fun o => ∃ h', o = .ret (.tup [.str (bif objOK s then nameB s else []), .int .i64 (bif objOK s then 0 else 90)]) h' ∧ Keep h h' [] := by
  refine Con.of_body rfl fn58 fun n hn => body58 ?_
  by_cases h0 : s = []
  · subst h0
    have e0 : (([] : List UInt8) == []) = true := rfl
    simp only [go_sem, reduceIte, Nat.reduceEqDiff, Nat.reduceAdd, Nat.reduceMul, Nat.reduceSub, Int.reduceLE, Int.reduceLT, Int.reduceNe, Int.reduceToNat, Int.reducePow, Int.reduceAdd, Int.reduceMul, reduceCtorEq, true_and, and_true, cond_true, cond_false, List.map_cons, List.map_nil, Option.map_some, Option.map_none, List.getElem?_cons_zero, List.getElem?_cons_succ, ne_eq, not_false_eq_true, List.nil_append, List.append_nil, List.cons_append, List.contains_cons, List.contains_nil, Nat.reduceBEq, Bool.or_false, Bool.false_or, Bool.true_or, Bool.or_true, e0]
    exact ⟨h, rfl, (Keep.refl h)⟩
  have e0 : (s == []) = false := by simp [h0]
  by_cases hl : s.length ≤ 255
  case neg =>
    have d1 : decide ((255 : Int) < (s.length : Int)) = true := decide_eq_true (by omega)
    have ho : objOK s = false := by simp [objOK]; intro _; omega
    simp only [go_sem, reduceIte, Nat.reduceEqDiff, Nat.reduceAdd, Nat.reduceMul, Nat.reduceSub, Int.reduceLE, Int.reduceLT, Int.reduceNe, Int.reduceToNat, Int.reducePow, Int.reduceAdd, Int.reduceMul, reduceCtorEq, true_and, and_true, cond_true, cond_false, List.map_cons, List.map_nil, Option.map_some, Option.map_none, List.getElem?_cons_zero, List.getElem?_cons_succ, ne_eq, not_false_eq_true, List.nil_append, List.append_nil, List.cons_append, List.contains_cons, List.contains_nil, Nat.reduceBEq, Bool.or_false, Bool.false_or, Bool.true_or, Bool.or_true, e0, d1, ho, cond_false]
    exact ⟨h, rfl, (Keep.refl h)⟩
  case pos =>
  have d1 : decide ((255 : Int) < (s.length : Int)) = false := decide_eq_false (by omega)
  have ho : objOK s = true := by simp [objOK, h0, hl]
  rw [ho]
  have em : aMake E0 h 24 (.int .i64 0) (.int .i64 ((1 + 2 * s.length : Nat) : Int)) = some (.sl h.next 0 0 (1 + 2 * s.length) false, h.push (.cells (repL (AV.int .u8 0).cells (1 + 2 * s.length)) 5 .own)) := make_gen (n := 0) (k := .i64) sl24 zero5 (by omega) (by omega)
  have sp : SpB 5 (h.push (.cells (repL (AV.int .u8 0).cells (1 + 2 * s.length)) 5 .own)) (.sl h.next 0 0 (1 + 2 * s.length) false) [] (1 + 2 * s.length) := by
    refine ⟨by simp, h.next, _, rfl, Nat.lt_succ_self _, get_push_new rfl, ?_⟩
    rw [repL_u8]; simp [u8s]
  have k1 : Keep h (h.push (.cells (repL (AV.int .u8 0).cells (1 + 2 * s.length)) 5 .own)) [] := Keep.push h _
  generalize h.push (.cells (repL (AV.int .u8 0).cells (1 + 2 * s.length)) 5 .own) = h1 at em sp k1
  obtain ⟨v2, h2, e2, sp2, k2, i2⟩ := append_spare byte24 seq24 (sp.keep (Keep.push h1 (.cells [.int .u8 111] 5 .own)) (by simp)) (bs_byte (h := h1) (b := 111) (by omega)).news (by simp)
  have e2 : eBuiltin E0 (h1.push (.cells [.int .u8 111] 5 .own)) .append [.sl h.next 0 0 (1 + 2 * s.length) false, .sl h1.next 0 1 1 false] [24, 24] = some (v2, h2) := e2
  have iv2 : ∀ j ∈ ids v2, h.next ≤ j := fun j hj => by rw [i2] at hj; simp [ids] at hj; omega
  have kk2 : Keep h h2 [] := ((k1.trans (Keep.push h1 _)).mono (by simp)).fresh k2 (fun j hj => by simp [ids] at hj; omega)
  simp only [go_sem, reduceIte, Nat.reduceEqDiff, Nat.reduceAdd, Nat.reduceMul, Nat.reduceSub, Int.reduceLE, Int.reduceLT, Int.reduceNe, Int.reduceToNat, Int.reducePow, Int.reduceAdd, Int.reduceMul, reduceCtorEq, true_and, and_true, cond_true, cond_false, List.map_cons, List.map_nil, Option.map_some, Option.map_none, List.getElem?_cons_zero, List.getElem?_cons_succ, ne_eq, not_false_eq_true, List.nil_append, List.append_nil, List.cons_append, List.contains_cons, List.contains_nil, Nat.reduceBEq, Bool.or_false, Bool.false_or, Bool.true_or, Bool.or_true, e0, d1, w_2len (show s.length ≤ 1000000000 by omega), w_1add (show 2 * s.length ≤ 1000000000 by omega), em, build_byte, e2, cond_true]
  refine wLoop_inv (fun k fr h3 => ∃ i v, k = s.length - i ∧ i ≤ s.length ∧ fr 0 = .str s ∧ fr 4 = v ∧ fr 22 = .int .i64 (s.length : Nat) ∧ fr 23 = .int .i64 (i : Nat) ∧ SpB 5 h3 v (nameB (s.take i)) (1 + 2 * s.length) ∧ Keep h h3 [] ∧ ∀ j ∈ ids v, h.next ≤ j) ?_ 100000 s.length _ _ (by omega)
    ⟨0, v2, rfl, by omega, by simp only [go_sem, reduceIte, Nat.reduceEqDiff, Nat.reduceAdd, Nat.reduceMul, Nat.reduceSub, Int.reduceLE, Int.reduceLT, Int.reduceNe, Int.reduceToNat, Int.reducePow, Int.reduceAdd, Int.reduceMul, reduceCtorEq, true_and, and_true, cond_true, cond_false, List.map_cons, List.map_nil, Option.map_some, Option.map_none, List.getElem?_cons_zero, List.getElem?_cons_succ, ne_eq, not_false_eq_true, List.nil_append, List.append_nil, List.cons_append, List.contains_cons, List.contains_nil, Nat.reduceBEq, Bool.or_false, Bool.false_or, Bool.true_or, Bool.or_true], by simp only [go_sem, reduceIte, Nat.reduceEqDiff, Nat.reduceAdd, Nat.reduceMul, Nat.reduceSub, Int.reduceLE, Int.reduceLT, Int.reduceNe, Int.reduceToNat, Int.reducePow, Int.reduceAdd, Int.reduceMul, reduceCtorEq, true_and, and_true, cond_true, cond_false, List.map_cons, List.map_nil, Option.map_some, Option.map_none, List.getElem?_cons_zero, List.getElem?_cons_succ, ne_eq, not_false_eq_true, List.nil_append, List.append_nil, List.cons_append, List.contains_cons, List.contains_nil, Nat.reduceBEq, Bool.or_false, Bool.false_or, Bool.true_or, Bool.or_true], by simp only [go_sem, reduceIte, Nat.reduceEqDiff, Nat.reduceAdd, Nat.reduceMul, Nat.reduceSub, Int.reduceLE, Int.reduceLT, Int.reduceNe, Int.reduceToNat, Int.reducePow, Int.reduceAdd, Int.reduceMul, reduceCtorEq, true_and, and_true, cond_true, cond_false, List.map_cons, List.map_nil, Option.map_some, Option.map_none, List.getElem?_cons_zero, List.getElem?_cons_succ, ne_eq, not_false_eq_true, List.nil_append, List.append_nil, List.cons_append, List.contains_cons, List.contains_nil, Nat.reduceBEq, Bool.or_false, Bool.false_or, Bool.true_or, Bool.or_true], by simp only [go_sem, reduceIte, Nat.reduceEqDiff, Nat.reduceAdd, Nat.reduceMul, Nat.reduceSub, Int.reduceLE, Int.reduceLT, Int.reduceNe, Int.reduceToNat, Int.reducePow, Int.reduceAdd, Int.reduceMul, reduceCtorEq, true_and, and_true, cond_true, cond_false, List.map_cons, List.map_nil, Option.map_some, Option.map_none, List.getElem?_cons_zero, List.getElem?_cons_succ, ne_eq, not_false_eq_true, List.nil_append, List.append_nil, List.cons_append, List.contains_cons, List.contains_nil, Nat.reduceBEq, Bool.or_false, Bool.false_or, Bool.true_or, Bool.or_true]; rfl, sp2, kk2, iv2⟩
  rintro k fr h3 ⟨i, v, rfl, hi, hf0, hf4, hf22, hf23, sp3, k3, iv3⟩
  simp only [go_sem, reduceIte, Nat.reduceEqDiff, Nat.reduceAdd, Nat.reduceMul, Nat.reduceSub, Int.reduceLE, Int.reduceLT, Int.reduceNe, Int.reduceToNat, Int.reducePow, Int.reduceAdd, Int.reduceMul, reduceCtorEq, true_and, and_true, cond_true, cond_false, List.map_cons, List.map_nil, Option.map_some, Option.map_none, List.getElem?_cons_zero, List.getElem?_cons_succ, ne_eq, not_false_eq_true, List.nil_append, List.append_nil, List.cons_append, List.contains_cons, List.contains_nil, Nat.reduceBEq, Bool.or_false, Bool.false_or, Bool.true_or, Bool.or_true, hf0, hf4, hf22, hf23]
  refine condK_intro (fun hc => ?_) (fun hc => ?_)
  · have hc : i < s.length := by have := of_decide_eq_true hc; omega
    have hx : s[i]? = some s[i] := List.getElem?_eq_getElem hc
    have hb : (s[i]).toNat < 256 := (s[i]).toNat_lt
    obtain ⟨_, p1, rfl⟩ := digit_con ((s[i]).toNat / 16) (by omega) h3 n (by omega)
    obtain ⟨_, p2, rfl⟩ := digit_con ((s[i]).toNat % 16) (by omega) h3 n (by omega)
    have dl1 := digitN_lt (n := (s[i]).toNat / 16) (by omega)
    have dl2 := digitN_lt (n := (s[i]).toNat % 16) (by omega)
    have hlen : (nameB (s.take i)).length = 1 + 2 * i := by simp [nameB, hexB_len]; omega
    have ni := idx_str (E := E0) (t := 9) (k := .i64) str9 hx
    obtain ⟨v4, h4, e4, sp4, k4, i4⟩ := append_spare byte24 seq24 (sp3.keep (Keep.push h3 (.cells [.int .u8 (digitN ((s[i]).toNat / 16) : Nat), .int .u8 (digitN ((s[i]).toNat % 16) : Nat)] 5 .own)) (by simp)) (bs_two (h := h3) dl1 dl2).news (by rw [hlen]; simp; omega)
    simp only [go_sem, reduceIte, Nat.reduceEqDiff, Nat.reduceAdd, Nat.reduceMul, Nat.reduceSub, Int.reduceLE, Int.reduceLT, Int.reduceNe, Int.reduceToNat, Int.reducePow, Int.reduceAdd, Int.reduceMul, reduceCtorEq, true_and, and_true, cond_true, cond_false, List.map_cons, List.map_nil, Option.map_some, Option.map_none, List.getElem?_cons_zero, List.getElem?_cons_succ, ne_eq, not_false_eq_true, List.nil_append, List.append_nil, List.cons_append, List.contains_cons, List.contains_nil, Nat.reduceBEq, Bool.or_false, Bool.false_or, Bool.true_or, Bool.or_true, hf0, hf4, hf22, hf23, ni, shr4, and15 _ hb, st_callf (show (E0.fn 99).isSome = true by kernel_rfl), p1, p2, build_two, e4, w_inc (show i ≤ 1000000000 by omega)]
    refine ⟨s.length - (i + 1), by omega, i + 1, v4, rfl, by omega, rfl, rfl, ?_, ((k3.trans (Keep.push h3 _)).mono (by simp)).fresh k4 iv3, fun j hj => iv3 j (by rw [i4] at hj; exact hj)⟩
    have e5 : nameB (s.take (i + 1)) = nameB (s.take i) ++ [UInt8.ofNat (digitN ((s[i]).toNat / 16)), UInt8.ofNat (digitN ((s[i]).toNat % 16))] := by
      rw [take_next hx, nameB, hexB_append]; rfl
    rw [e5]; exact sp4
  · have hc : i = s.length := by have := of_decide_eq_false hc; omega
    subst hc
    rw [List.take_length] at sp3
    simp only [go_sem, reduceIte, Nat.reduceEqDiff, Nat.reduceAdd, Nat.reduceMul, Nat.reduceSub, Int.reduceLE, Int.reduceLT, Int.reduceNe, Int.reduceToNat, Int.reducePow, Int.reduceAdd, Int.reduceMul, reduceCtorEq, true_and, and_true, cond_true, cond_false, List.map_cons, List.map_nil, Option.map_some, Option.map_none, List.getElem?_cons_zero, List.getElem?_cons_succ, ne_eq, not_false_eq_true, List.nil_append, List.append_nil, List.cons_append, List.contains_cons, List.contains_nil, Nat.reduceBEq, Bool.or_false, Bool.false_or, Bool.true_or, Bool.or_true, hf0, hf4, hf22, hf23, conv_bytes byte24 str9 sp3.bs]
    exact ⟨_, rfl, k3⟩

def decH : List UInt8 → Option (List UInt8)
  | [] => some []
  | [_] => none
  | a :: b :: r => match valueN a.toNat, valueN b.toNat, decH r with
    | some x, some y, some l => some (UInt8.ofNat (x * 16 + y) :: l)
    | _, _, _ => none
def keyF (s : List UInt8) : Option (List UInt8) :=
  if prefB s [111] = true ∧ s.drop 1 ≠ [] ∧ (s.drop 1).length % 2 = 0 ∧ (s.drop 1).length ≤ 510 then decH (s.drop 1) else none
theorem valueN_lt {c x : Nat} (h : valueN c = some x) : x < 16 := by
  unfold valueN at h
  split at h
  · cases h; omega
  · split at h
    · cases h; omega
    · cases h
theorem shl4_or (x y : Nat) (hx : x < 16) (hy : y < 16) : orI .u8 (IntKind.u8.wrap ((x : Int) * 2 ^ min 4 8)) (y : Int) = ((x * 16 + y : Nat) : Int) := by
  have key : ∀ x : Nat, x < 16 → ∀ y : Nat, y < 16 → orI .u8 (IntKind.u8.wrap ((x : Int) * 2 ^ min 4 8)) (y : Int) = ((x * 16 + y : Nat) : Int) := by decide +kernel
  exact key x hx y hy
theorem tmod2 (k : Nat) : Int.tmod (k : Int) 2 = ((k % 2 : Nat) : Int) := by rw [Int.tmod_eq_emod_of_nonneg (by omega)]; omega
theorem bin_rem2 {t : TypeId} {k : IntKind} {a : Int} : aBin E0 .rem t (.int k a) (.int k 2) = some (.int k (a.tmod 2)) := bin_rem (by decide)
end Go.Proofs.Yteblojfcalgoeaa

/- Seat 1: naming's Key and Kind. Conditions: none. -/
namespace Go.Proofs.Yteblojfcalgoeaa
open Go Go.RowKit
set_option maxRecDepth 100000
set_option linter.unusedSimpArgs false
set_option linter.unusedVariables false

/-- The first pairs, read; what is to come. -/
def afterH (done : List UInt8) : Option (List UInt8) → Option (List UInt8)
  | some l => some (done ++ l)
  | none => none

theorem key_con (s : List UInt8) (hs : s.length ≤ 9223372036854775807) (h : AH) : Con E0 sp0 100000 5 59 [.str s] h fun o => ∃ h', o = .ret (.tup [.str ((keyF s).getD []), .bool (keyF s).isSome]) h' ∧ Keep h h' [] := by
  refine Con.of_body rfl fn59 fun n hn => body59 ?_
  obtain ⟨_, p1, rfl⟩ := cutPrefix_con s [111] h n (by omega)
  have c100 : (E0.fn 100).isSome = true := by kernel_rfl
  cases hp : prefB s [111] with
  | false =>
    rw [hp] at p1
    have hk : keyF s = none := by unfold keyF; rw [if_neg]; simp [hp]
    simp only [go_sem, reduceIte, Nat.reduceEqDiff, Nat.reduceAdd, Nat.reduceMul, Nat.reduceSub, Int.reduceLE, Int.reduceLT, Int.reduceNe, Int.reduceToNat, Int.reducePow, Int.reduceAdd, Int.reduceMul, reduceCtorEq, true_and, and_true, cond_true, cond_false, List.map_cons, List.map_nil, Option.map_some, Option.map_none, List.getElem?_cons_zero, List.getElem?_cons_succ, ne_eq, not_false_eq_true, List.nil_append, List.append_nil, List.cons_append, List.contains_cons, List.contains_nil, Nat.reduceBEq, Bool.or_false, Bool.false_or, Bool.true_or, Bool.or_true, st_callf c100, p1, hk, Option.getD_none, Option.isSome_none]
    exact ⟨h, rfl, Keep.refl h⟩
  | true =>
    rw [hp, cond_true] at p1
    have p1 : aCall E0 sp0 100000 n 100 [.str s, .str [111]] h = some (.ret (.tup [.str (s.drop 1), .bool true]) h) := p1
    have hkf : keyF s = if s.drop 1 ≠ [] ∧ (s.drop 1).length % 2 = 0 ∧ (s.drop 1).length ≤ 510 then decH (s.drop 1) else none := by unfold keyF; rw [hp]; simp
    rw [hkf]
    clear hkf
    generalize hx : s.drop 1 = x at p1 ⊢
    by_cases hx0 : x = []
    · have e0 : (x == []) = true := by simp [hx0]
      rw [if_neg (by simp [hx0])]
      simp only [go_sem, reduceIte, Nat.reduceEqDiff, Nat.reduceAdd, Nat.reduceMul, Nat.reduceSub, Int.reduceLE, Int.reduceLT, Int.reduceNe, Int.reduceToNat, Int.reducePow, Int.reduceAdd, Int.reduceMul, reduceCtorEq, true_and, and_true, cond_true, cond_false, List.map_cons, List.map_nil, Option.map_some, Option.map_none, List.getElem?_cons_zero, List.getElem?_cons_succ, ne_eq, not_false_eq_true, List.nil_append, List.append_nil, List.cons_append, List.contains_cons, List.contains_nil, Nat.reduceBEq, Bool.or_false, Bool.false_or, Bool.true_or, Bool.or_true, st_callf c100, p1, e0, Option.getD_none, Option.isSome_none]
      exact ⟨h, rfl, Keep.refl h⟩
    have e0 : (x == []) = false := by simp [hx0]
    by_cases hx2 : x.length % 2 = 0
    case neg =>
      have d2 : (((x.length % 2 : Nat) : Int) != 0) = true := by simp; omega
      rw [if_neg (by intro a; exact hx2 a.2.1)]
      simp only [go_sem, reduceIte, Nat.reduceEqDiff, Nat.reduceAdd, Nat.reduceMul, Nat.reduceSub, Int.reduceLE, Int.reduceLT, Int.reduceNe, Int.reduceToNat, Int.reducePow, Int.reduceAdd, Int.reduceMul, reduceCtorEq, true_and, and_true, cond_true, cond_false, List.map_cons, List.map_nil, Option.map_some, Option.map_none, List.getElem?_cons_zero, List.getElem?_cons_succ, ne_eq, not_false_eq_true, List.nil_append, List.append_nil, List.cons_append, List.contains_cons, List.contains_nil, Nat.reduceBEq, Bool.or_false, Bool.false_or, Bool.true_or, Bool.or_true, st_callf c100, p1, e0, bin_rem2, tmod2, d2, Option.getD_none, Option.isSome_none]
      exact ⟨h, rfl, Keep.refl h⟩
    case pos =>
    have d2 : (((x.length % 2 : Nat) : Int) != 0) = false := by simp; omega
    by_cases hx5 : x.length ≤ 510
    case neg =>
      have d3 : decide ((510 : Int) < (x.length : Int)) = true := decide_eq_true (by omega)
      rw [if_neg (by intro a; exact hx5 a.2.2)]
      simp only [go_sem, reduceIte, Nat.reduceEqDiff, Nat.reduceAdd, Nat.reduceMul, Nat.reduceSub, Int.reduceLE, Int.reduceLT, Int.reduceNe, Int.reduceToNat, Int.reducePow, Int.reduceAdd, Int.reduceMul, reduceCtorEq, true_and, and_true, cond_true, cond_false, List.map_cons, List.map_nil, Option.map_some, Option.map_none, List.getElem?_cons_zero, List.getElem?_cons_succ, ne_eq, not_false_eq_true, List.nil_append, List.append_nil, List.cons_append, List.contains_cons, List.contains_nil, Nat.reduceBEq, Bool.or_false, Bool.false_or, Bool.true_or, Bool.or_true, st_callf c100, p1, e0, bin_rem2, tmod2, d2, d3, Option.getD_none, Option.isSome_none]
      exact ⟨h, rfl, Keep.refl h⟩
    case pos =>
    have d3 : decide ((510 : Int) < (x.length : Int)) = false := decide_eq_false (by omega)
    rw [if_pos ⟨hx0, hx2, hx5⟩]
    obtain ⟨m, hm⟩ : ∃ m, m = x.length / 2 := ⟨_, rfl⟩
    have hm2 : x.length = 2 * m := by omega
    have hw : IntKind.i64.wrap ((x.length / 2 : Nat) : Int) = ((m : Nat) : Int) := by rw [← hm]; exact w_i64_in m (by omega)
    have em : aMake E0 h 24 (.int .i64 (m : Nat)) (.int .i64 (m : Nat)) = some (.sl h.next 0 m m false, h.push (.cells (repL (AV.int .u8 0).cells m) 5 .own)) := make_gen sl24 zero5 (Nat.le_refl m) (by omega)
    rw [repL_u8] at em
    have k1 := Keep.push h (.cells (u8s (List.replicate m 0)) 5 .own)
    have ow : OwnA 5 1 (h.push (.cells (u8s (List.replicate m 0)) 5 .own)) (.sl h.next 0 m m false) m (u8s (List.replicate m 0)) := OwnA.own (by simp [u8s]) (u8s_atom _)
    generalize h.push (.cells (u8s (List.replicate m 0)) 5 .own) = h1 at em ow k1
    have hlen1 : qBuiltin E0 h1 .len [.sl h.next 0 m m false] [24] = some (.int .i64 (m : Nat)) := len_sl slice24
    simp only [go_sem, reduceIte, Nat.reduceEqDiff, Nat.reduceAdd, Nat.reduceMul, Nat.reduceSub, Int.reduceLE, Int.reduceLT, Int.reduceNe, Int.reduceToNat, Int.reducePow, Int.reduceAdd, Int.reduceMul, reduceCtorEq, true_and, and_true, cond_true, cond_false, List.map_cons, List.map_nil, Option.map_some, Option.map_none, List.getElem?_cons_zero, List.getElem?_cons_succ, ne_eq, not_false_eq_true, List.nil_append, List.append_nil, List.cons_append, List.contains_cons, List.contains_nil, Nat.reduceBEq, Bool.or_false, Bool.false_or, Bool.true_or, Bool.or_true, st_callf c100, p1, e0, bin_rem2, tmod2, d2, d3, tdiv2, hw, em, hlen1]
    refine wLoop_inv (fun k fr h3 => ∃ i done, k = m - i ∧ i ≤ m ∧ fr 4 = .str x ∧ fr 6 = .sl h.next 0 m m false ∧ fr 39 = .int .i64 (m : Nat) ∧ fr 40 = .int .i64 (i : Nat) ∧ done.length = i ∧ OwnA 5 1 h3 (.sl h.next 0 m m false) m (u8s (done ++ List.replicate (m - i) 0)) ∧ Keep h h3 [] ∧ decH x = afterH done (decH (x.drop (2 * i)))) ?_ 100000 m _ _ (by omega)
      ⟨0, [], rfl, by omega, by simp only [go_sem, reduceIte, Nat.reduceEqDiff, Nat.reduceAdd, Nat.reduceMul, Nat.reduceSub, Int.reduceLE, Int.reduceLT, Int.reduceNe, Int.reduceToNat, Int.reducePow, Int.reduceAdd, Int.reduceMul, reduceCtorEq, true_and, and_true, cond_true, cond_false, List.map_cons, List.map_nil, Option.map_some, Option.map_none, List.getElem?_cons_zero, List.getElem?_cons_succ, ne_eq, not_false_eq_true, List.nil_append, List.append_nil, List.cons_append, List.contains_cons, List.contains_nil, Nat.reduceBEq, Bool.or_false, Bool.false_or, Bool.true_or, Bool.or_true], by simp only [go_sem, reduceIte, Nat.reduceEqDiff, Nat.reduceAdd, Nat.reduceMul, Nat.reduceSub, Int.reduceLE, Int.reduceLT, Int.reduceNe, Int.reduceToNat, Int.reducePow, Int.reduceAdd, Int.reduceMul, reduceCtorEq, true_and, and_true, cond_true, cond_false, List.map_cons, List.map_nil, Option.map_some, Option.map_none, List.getElem?_cons_zero, List.getElem?_cons_succ, ne_eq, not_false_eq_true, List.nil_append, List.append_nil, List.cons_append, List.contains_cons, List.contains_nil, Nat.reduceBEq, Bool.or_false, Bool.false_or, Bool.true_or, Bool.or_true], by simp only [go_sem, reduceIte, Nat.reduceEqDiff, Nat.reduceAdd, Nat.reduceMul, Nat.reduceSub, Int.reduceLE, Int.reduceLT, Int.reduceNe, Int.reduceToNat, Int.reducePow, Int.reduceAdd, Int.reduceMul, reduceCtorEq, true_and, and_true, cond_true, cond_false, List.map_cons, List.map_nil, Option.map_some, Option.map_none, List.getElem?_cons_zero, List.getElem?_cons_succ, ne_eq, not_false_eq_true, List.nil_append, List.append_nil, List.cons_append, List.contains_cons, List.contains_nil, Nat.reduceBEq, Bool.or_false, Bool.false_or, Bool.true_or, Bool.or_true], by simp only [go_sem, reduceIte, Nat.reduceEqDiff, Nat.reduceAdd, Nat.reduceMul, Nat.reduceSub, Int.reduceLE, Int.reduceLT, Int.reduceNe, Int.reduceToNat, Int.reducePow, Int.reduceAdd, Int.reduceMul, reduceCtorEq, true_and, and_true, cond_true, cond_false, List.map_cons, List.map_nil, Option.map_some, Option.map_none, List.getElem?_cons_zero, List.getElem?_cons_succ, ne_eq, not_false_eq_true, List.nil_append, List.append_nil, List.cons_append, List.contains_cons, List.contains_nil, Nat.reduceBEq, Bool.or_false, Bool.false_or, Bool.true_or, Bool.or_true]; rfl, rfl, ow, k1, by cases hd : decH x <;> simp [afterH, hd]⟩
    rintro k fr h3 ⟨i, done, rfl, hi, hf4, hf6, hf39, hf40, hdl, ow3, k3, hF⟩
    rw [hF]
    simp only [go_sem, reduceIte, Nat.reduceEqDiff, Nat.reduceAdd, Nat.reduceMul, Nat.reduceSub, Int.reduceLE, Int.reduceLT, Int.reduceNe, Int.reduceToNat, Int.reducePow, Int.reduceAdd, Int.reduceMul, reduceCtorEq, true_and, and_true, cond_true, cond_false, List.map_cons, List.map_nil, Option.map_some, Option.map_none, List.getElem?_cons_zero, List.getElem?_cons_succ, ne_eq, not_false_eq_true, List.nil_append, List.append_nil, List.cons_append, List.contains_cons, List.contains_nil, Nat.reduceBEq, Bool.or_false, Bool.false_or, Bool.true_or, Bool.or_true, hf4, hf6, hf39, hf40]
    refine condK_intro (fun hc => ?_) (fun hc => ?_)
    case refine_2 =>
      have hc : i = m := by have := of_decide_eq_false hc; omega
      subst hc
      have : x.drop (2 * i) = [] := by rw [← hm2]; exact List.drop_length
      rw [this]
      rw [Nat.sub_self, List.replicate_zero, List.append_nil] at ow3
      simp only [go_sem, reduceIte, Nat.reduceEqDiff, Nat.reduceAdd, Nat.reduceMul, Nat.reduceSub, Int.reduceLE, Int.reduceLT, Int.reduceNe, Int.reduceToNat, Int.reducePow, Int.reduceAdd, Int.reduceMul, reduceCtorEq, true_and, and_true, cond_true, cond_false, List.map_cons, List.map_nil, Option.map_some, Option.map_none, List.getElem?_cons_zero, List.getElem?_cons_succ, ne_eq, not_false_eq_true, List.nil_append, List.append_nil, List.cons_append, List.contains_cons, List.contains_nil, Nat.reduceBEq, Bool.or_false, Bool.false_or, Bool.true_or, Bool.or_true, hf4, hf6, hf39, hf40, conv_bytes byte24 str9 ow3.bytes.bs, decH, afterH, List.append_nil, Option.getD_some, Option.isSome_some]
      exact ⟨_, rfl, k3⟩
    case refine_1 =>
    have hc : i < m := by have := of_decide_eq_true hc; omega
    obtain ⟨a, ha⟩ : ∃ a, x[2 * i]? = some a := ⟨_, List.getElem?_eq_getElem (by omega)⟩
    obtain ⟨b, hb⟩ : ∃ b, x[2 * i + 1]? = some b := ⟨_, List.getElem?_eq_getElem (by omega)⟩
    have hdr : x.drop (2 * i) = a :: b :: x.drop (2 * (i + 1)) := by
      have e1 := List.drop_eq_getElem_cons (l := x) (i := 2 * i) (by omega)
      have e2 := List.drop_eq_getElem_cons (l := x) (i := 2 * i + 1) (by omega)
      rw [List.getElem?_eq_getElem (by omega)] at ha hb
      rw [e1, e2]
      cases ha; cases hb
      rfl
    rw [hdr]
    have ni1 := idx_str (E := E0) (t := 9) (k := .i64) str9 ha
    have ni2 := idx_str (E := E0) (t := 9) (k := .i64) str9 hb
    obtain ⟨_, q1, rfl⟩ := value_con a.toNat a.toNat_lt h3 n (by omega)
    obtain ⟨_, q2, rfl⟩ := value_con b.toNat b.toNat_lt h3 n (by omega)
    have c101 : (E0.fn 101).isSome = true := by kernel_rfl
    have w2 := w_2len (i := i) (by omega)
    have w3 := w_inc (i := 2 * i) (by omega)
    simp only [decH]
    cases hva : valueN a.toNat with
    | none =>
      rw [hva] at q1
      cases hvb : valueN b.toNat with
      | none =>
        rw [hvb] at q2
        simp only [go_sem, reduceIte, Nat.reduceEqDiff, Nat.reduceAdd, Nat.reduceMul, Nat.reduceSub, Int.reduceLE, Int.reduceLT, Int.reduceNe, Int.reduceToNat, Int.reducePow, Int.reduceAdd, Int.reduceMul, reduceCtorEq, true_and, and_true, cond_true, cond_false, List.map_cons, List.map_nil, Option.map_some, Option.map_none, List.getElem?_cons_zero, List.getElem?_cons_succ, ne_eq, not_false_eq_true, List.nil_append, List.append_nil, List.cons_append, List.contains_cons, List.contains_nil, Nat.reduceBEq, Bool.or_false, Bool.false_or, Bool.true_or, Bool.or_true, hf4, hf6, hf39, hf40, w2, w3, ni1, ni2, st_callf c101, q1, q2, Option.getD_none, Option.isSome_none, afterH]
        exact ⟨_, rfl, k3⟩
      | some y =>
        rw [hvb] at q2
        simp only [go_sem, reduceIte, Nat.reduceEqDiff, Nat.reduceAdd, Nat.reduceMul, Nat.reduceSub, Int.reduceLE, Int.reduceLT, Int.reduceNe, Int.reduceToNat, Int.reducePow, Int.reduceAdd, Int.reduceMul, reduceCtorEq, true_and, and_true, cond_true, cond_false, List.map_cons, List.map_nil, Option.map_some, Option.map_none, List.getElem?_cons_zero, List.getElem?_cons_succ, ne_eq, not_false_eq_true, List.nil_append, List.append_nil, List.cons_append, List.contains_cons, List.contains_nil, Nat.reduceBEq, Bool.or_false, Bool.false_or, Bool.true_or, Bool.or_true, hf4, hf6, hf39, hf40, w2, w3, ni1, ni2, st_callf c101, q1, q2, Option.getD_none, Option.isSome_none, Option.getD_some, Option.isSome_some, afterH]
        exact ⟨_, rfl, k3⟩
    | some v =>
      rw [hva] at q1
      cases hvb : valueN b.toNat with
      | none =>
        rw [hvb] at q2
        simp only [go_sem, reduceIte, Nat.reduceEqDiff, Nat.reduceAdd, Nat.reduceMul, Nat.reduceSub, Int.reduceLE, Int.reduceLT, Int.reduceNe, Int.reduceToNat, Int.reducePow, Int.reduceAdd, Int.reduceMul, reduceCtorEq, true_and, and_true, cond_true, cond_false, List.map_cons, List.map_nil, Option.map_some, Option.map_none, List.getElem?_cons_zero, List.getElem?_cons_succ, ne_eq, not_false_eq_true, List.nil_append, List.append_nil, List.cons_append, List.contains_cons, List.contains_nil, Nat.reduceBEq, Bool.or_false, Bool.false_or, Bool.true_or, Bool.or_true, hf4, hf6, hf39, hf40, w2, w3, ni1, ni2, st_callf c101, q1, q2, Option.getD_none, Option.isSome_none, Option.getD_some, Option.isSome_some, afterH]
        exact ⟨_, rfl, k3⟩
      | some y =>
        rw [hvb] at q2
        have hv16 := valueN_lt hva
        have hy16 := valueN_lt hvb
        obtain ⟨p, h4, j1, _, j3, ow4, k4⟩ := OwnA.put (E := E0) sl24 ow3 (k := .i64) (j := i) hc (x := .int .u8 ((v * 16 + y : Nat) : Int)) rfl
        have hset : (u8s (done ++ List.replicate (m - i) 0)).set i (.int .u8 ((v * 16 + y : Nat) : Int)) = u8s ((done ++ [UInt8.ofNat (v * 16 + y)]) ++ List.replicate (m - (i + 1)) 0) := by
          have hr : List.replicate (m - i) (0 : UInt8) = 0 :: List.replicate (m - (i + 1)) 0 := by rw [show m - i = (m - (i + 1)) + 1 by omega]; rfl
          rw [hr, u8s_append, List.set_append_right _ _ (by rw [u8s_length]; omega), u8s_length, hdl, Nat.sub_self, u8s_append, u8s_append]
          have hb8 : (UInt8.ofNat (v * 16 + y)).toNat = v * 16 + y := u8_small (by omega)
          rw [List.append_assoc]
          simp only [u8s, List.map_cons, List.map_nil, List.set_cons_zero, hb8, List.cons_append, List.nil_append]
        rw [hset] at ow4
        have hfin : ∀ o : Option (List UInt8), afterH done (match some v, some y, o with | some x, some y, some l => some (UInt8.ofNat (x * 16 + y) :: l) | _, _, _ => none) = afterH (done ++ [UInt8.ofNat (v * 16 + y)]) o := fun o => by
          cases o <;> simp [afterH]
        simp only [go_sem, reduceIte, Nat.reduceEqDiff, Nat.reduceAdd, Nat.reduceMul, Nat.reduceSub, Int.reduceLE, Int.reduceLT, Int.reduceNe, Int.reduceToNat, Int.reducePow, Int.reduceAdd, Int.reduceMul, reduceCtorEq, true_and, and_true, cond_true, cond_false, List.map_cons, List.map_nil, Option.map_some, Option.map_none, List.getElem?_cons_zero, List.getElem?_cons_succ, ne_eq, not_false_eq_true, List.nil_append, List.append_nil, List.cons_append, List.contains_cons, List.contains_nil, Nat.reduceBEq, Bool.or_false, Bool.false_or, Bool.true_or, Bool.or_true, hf4, hf6, hf39, hf40, w2, w3, ni1, ni2, st_callf c101, q1, q2, Option.getD_some, Option.isSome_some, shl4_or v y hv16 hy16, j1, j3, w_inc (show i ≤ 1000000000 by omega)]
        exact ⟨m - (i + 1), by omega, i + 1, done ++ [UInt8.ofNat (v * 16 + y)], rfl, by omega, rfl, by simp [hdl], ow4, k3.fresh k4 (fun j hj => by simp [ids] at hj; omega), hfin _⟩

def kindF (s : List UInt8) : Nat := if s = [116] then 2 else if s = [108] then 3 else if (keyF s).isSome = true then 1 else 0
theorem kind_con (s : List UInt8) (hs : s.length ≤ 9223372036854775807) (h : AH) : Con E0 sp0 100000 6 60 [.str s] h fun o => ∃ h', o = .ret (.int .i64 (kindF s : Nat)) h' ∧ Keep h h' [] := by
  refine Con.of_body rfl fn60 fun n hn => body60 ?_
  unfold kindF
  by_cases h1 : s = [116]
  · have e1 : (s == [116]) = true := by simp [h1]
    simp only [go_sem, reduceIte, Nat.reduceEqDiff, Nat.reduceAdd, Nat.reduceMul, Nat.reduceSub, Int.reduceLE, Int.reduceLT, Int.reduceNe, Int.reduceToNat, Int.reducePow, Int.reduceAdd, Int.reduceMul, reduceCtorEq, true_and, and_true, cond_true, cond_false, List.map_cons, List.map_nil, Option.map_some, Option.map_none, List.getElem?_cons_zero, List.getElem?_cons_succ, ne_eq, not_false_eq_true, List.nil_append, List.append_nil, List.cons_append, List.contains_cons, List.contains_nil, Nat.reduceBEq, Bool.or_false, Bool.false_or, Bool.true_or, Bool.or_true, e1, if_pos h1]
    exact ⟨h, rfl, Keep.refl h⟩
  have e1 : (s == [116]) = false := by simp [h1]
  by_cases h2 : s = [108]
  · have e2 : (s == [108]) = true := by simp [h2]
    simp only [go_sem, reduceIte, Nat.reduceEqDiff, Nat.reduceAdd, Nat.reduceMul, Nat.reduceSub, Int.reduceLE, Int.reduceLT, Int.reduceNe, Int.reduceToNat, Int.reducePow, Int.reduceAdd, Int.reduceMul, reduceCtorEq, true_and, and_true, cond_true, cond_false, List.map_cons, List.map_nil, Option.map_some, Option.map_none, List.getElem?_cons_zero, List.getElem?_cons_succ, ne_eq, not_false_eq_true, List.nil_append, List.append_nil, List.cons_append, List.contains_cons, List.contains_nil, Nat.reduceBEq, Bool.or_false, Bool.false_or, Bool.true_or, Bool.or_true, e1, e2, if_neg h1, if_pos h2]
    exact ⟨h, rfl, Keep.refl h⟩
  have e2 : (s == [108]) = false := by simp [h2]
  obtain ⟨_, p1, h', rfl, k1⟩ := key_con s hs h n (by omega)
  cases hk : (keyF s).isSome with
  | true =>
    rw [hk] at p1
    simp only [go_sem, reduceIte, Nat.reduceEqDiff, Nat.reduceAdd, Nat.reduceMul, Nat.reduceSub, Int.reduceLE, Int.reduceLT, Int.reduceNe, Int.reduceToNat, Int.reducePow, Int.reduceAdd, Int.reduceMul, reduceCtorEq, true_and, and_true, cond_true, cond_false, List.map_cons, List.map_nil, Option.map_some, Option.map_none, List.getElem?_cons_zero, List.getElem?_cons_succ, ne_eq, not_false_eq_true, List.nil_append, List.append_nil, List.cons_append, List.contains_cons, List.contains_nil, Nat.reduceBEq, Bool.or_false, Bool.false_or, Bool.true_or, Bool.or_true, e1, e2, p1, if_neg h1, if_neg h2]
    exact ⟨_, rfl, k1⟩
  | false =>
    rw [hk] at p1
    simp only [go_sem, reduceIte, Nat.reduceEqDiff, Nat.reduceAdd, Nat.reduceMul, Nat.reduceSub, Int.reduceLE, Int.reduceLT, Int.reduceNe, Int.reduceToNat, Int.reducePow, Int.reduceAdd, Int.reduceMul, reduceCtorEq, true_and, and_true, cond_true, cond_false, List.map_cons, List.map_nil, Option.map_some, Option.map_none, List.getElem?_cons_zero, List.getElem?_cons_succ, ne_eq, not_false_eq_true, List.nil_append, List.append_nil, List.cons_append, List.contains_cons, List.contains_nil, Nat.reduceBEq, Bool.or_false, Bool.false_or, Bool.true_or, Bool.or_true, e1, e2, p1, if_neg h1, if_neg h2]
    exact ⟨_, rfl, k1⟩
end Go.Proofs.Yteblojfcalgoeaa

/- Seat 1: naming.Under: which keys, rising, each once. Conditions: none. -/
set_option linter.unusedVariables false
set_option linter.unusedSimpArgs false
namespace Go.Proofs.Yteblojfcalgoeaa
open Go Go.RowKit
set_option maxRecDepth 100000

/-- The keys that names tell below a beginning, each once, in the order in which they are met. -/
def addU (pre : List UInt8) (l : List (List UInt8)) (s : List UInt8) : List (List UInt8) :=
  match keyF s with
  | some k => if prefB k pre = true ∧ k ∉ l then l ++ [k] else l
  | none => l
def underK (pre : List UInt8) (names : List (List UInt8)) : List (List UInt8) := names.foldl (addU pre) []

theorem idxK_spec (k : List UInt8) : ∀ (es : List (List UInt8 × AV)) (n : Nat), (idxK k es n = none ∧ k ∉ es.map (·.1)) ∨ ∃ j v, idxK k es n = some (n + j) ∧ es[j]? = some (k, v)
  | [], n => .inl ⟨rfl, by simp⟩
  | (k', v) :: r, n => by
      by_cases h : k = k'
      · subst h
        exact .inr ⟨0, v, by simp [idxK], by simp⟩
      · have e : (k == k') = false := by simp [h]
        rcases idxK_spec k r (n + 1) with ⟨h1, h2⟩ | ⟨j, u, h1, h2⟩
        · exact .inl ⟨by simp [idxK, e, h1], by simp; exact ⟨h, by simpa using h2⟩⟩
        · exact .inr ⟨j + 1, u, by simp [idxK, e, h1]; omega, by simpa using h2⟩
theorem insK_keys (k : List UInt8) (v : AV) (es : List (List UInt8 × AV)) : (insK k v es).map (·.1) = if k ∈ es.map (·.1) then es.map (·.1) else es.map (·.1) ++ [k] := by
  rcases idxK_spec k es 0 with ⟨h1, h2⟩ | ⟨j, u, h1, h2⟩
  · rw [insK, h1, if_neg h2]; simp
  · have hm : k ∈ es.map (·.1) := List.mem_map.2 ⟨(k, u), List.mem_of_getElem? h2, rfl⟩
    rw [insK, h1, if_pos hm, Nat.zero_add]
    simp only [List.map_set]
    apply List.ext_getElem?
    intro i
    rw [List.getElem?_set]
    split
    · rename_i e
      subst e
      rw [List.getElem?_map, h2]
      have := (List.getElem?_eq_some_iff.1 h2).1
      simp [this]
    · rfl
theorem addU_len (pre : List UInt8) (l : List (List UInt8)) (s : List UInt8) : (addU pre l s).length ≤ l.length + 1 := by
  unfold addU
  split
  · split <;> simp
  · omega
theorem foldU_len (pre : List UInt8) : ∀ (names l : List (List UInt8)), (names.foldl (addU pre) l).length ≤ l.length + names.length
  | [], l => by simp
  | s :: r, l => by
      have := foldU_len pre r (addU pre l s)
      have := addU_len pre l s
      simp only [List.foldl_cons, List.length_cons]
      omega
theorem underK_len (pre : List UInt8) (names : List (List UInt8)) : (underK pre names).length ≤ names.length := by
  have := foldU_len pre names []
  simpa [underK] using this
theorem take_succ_of {α : Type} {l : List α} {i : Nat} {x : α} (h : l[i]? = some x) : l.take (i + 1) = l.take i ++ [x] := by
  rw [List.take_add_one, h]; rfl
theorem underK_next {pre : List UInt8} {names : List (List UInt8)} {i : Nat} {s : List UInt8} (h : names[i]? = some s) : underK pre (names.take (i + 1)) = addU pre (underK pre (names.take i)) s := by
  rw [take_succ_of h, underK, List.foldl_append]; rfl

section
variable {E : Env} {K : Caller} {fr : Nat → AV} {h : AH}
@[go_sem] theorem st_makeMap {t : TypeId} : aStep E K false fr h (.makeMap t none) = some (.val (.map h.next) (h.push (.map []))) := by
  simp only [aStep, aOper, qStep, qOp, eOp]
/-- A map is written. -/
def updV (E : Env) (h : AH) (t : TypeId) (m k v : AV) : Option SR :=
  match m, k with
  | .map i, .str s => bif strMap E t then
      (match h.get i with
      | .map es => some (.val .bad (h.set i (.map (insK s v es))))
      | _ => none) else none
  | _, _ => none
@[go_sem] theorem st_mapUpdate {t : TypeId} {m k v : Operand} : aStep E K false fr h (.mapUpdate t m k v) = updV E h t (ev fr m) (ev fr k) (ev fr v) := by
  simp only [aStep, aOper, qStep, qOp, eOp, updV]
  cases ev fr m <;> try rfl
  cases ev fr k <;> try rfl
  rename_i i s
  cases strMap E t
  · rfl
  · simp only [cond_true]
    cases h.get i <;> rfl
theorem updV_at {t : TypeId} {i : Nat} {s : List UInt8} {v : AV} {es : List (List UInt8 × AV)} (ht : strMap E t = true) (hg : h.get i = .map es) : updV E h t (.map i) (.str s) v = some (.val .bad (h.set i (.map (insK s v es)))) := by
  simp only [updV, ht, hg, cond_true]
end
theorem sm170 : strMap E0 170 = true := by kernel_rfl
theorem build172 : aBuild E0 172 [] = some (.agg []) := by kernel_rfl
theorem len170 {h : AH} {i : Nat} {es : List (List UInt8 × AV)} (hg : h.get i = .map es) : qBuiltin E0 h .len [.map i] [170] = some (.int .i64 (es.length : Nat)) := by
  have h1 : (match E0.ty 170 with | some ti => (match ti.und with | .map _ _ => true | _ => false) | none => false) = true := by kernel_rfl
  simp only [qBuiltin, aLen]
  split at h1
  · rename_i ti e
    simp only [e]
    split at h1
    · rename_i e2
      simp only [e2, hg]
    · cases h1
  · cases h1
theorem zero9 : zeroT E0 9 = some (.str []) := by kernel_rfl
theorem at9 : atomT E0 9 = true := by kernel_rfl
theorem repL_one (z : AV) : ∀ n, (repL [z] n).length = n
  | 0 => rfl
  | n + 1 => by simp [repL, repL_one z n]
theorem fs59 : (E0.fn 59).isSome = true := by kernel_rfl
theorem fs102 : (E0.fn 102).isSome = true := by kernel_rfl
theorem strs_get {ts : List (List UInt8)} {i : Nat} {s : List UInt8} (h : ts[i]? = some s) : (strs ts)[i]? = some (.str s) := by simp [strs, h]

/-- Behind the first pieces of Under: the map holds the keys, an array waits for them. -/
def UnO (h : AH) (U : List (List UInt8)) (r : CR) : Prop :=
  ∃ fr h1 mi j es, r = .go 0 fr h1 ∧ fr 5 = .map mi ∧ fr 10 = .sl j 0 0 es.length false ∧ h1.get mi = .map es ∧ (∃ cs, h1.get j = .cells cs 9 .own ∧ cs.length = es.length) ∧ es.map (·.1) = U ∧ mi ≠ j ∧ mi < h1.next ∧ j < h1.next ∧ Keep h h1 [] ∧ h.next ≤ mi ∧ h.next ≤ j

theorem under_pre {x : AV} {names : List (List UInt8)} (pre : List UInt8) {h : AH} (hx : GS 1 h x names.length (strs names)) (hl : names.length ≤ 1000) (hs : ∀ s ∈ names, s.length ≤ 9223372036854775807) (n : Nat) (hn : 7 ≤ n) :
    wCode E0 (aCall E0 sp0 100000 n) 100000 (slim E0 50 (seqAll pre61 .skip)) (frame0 [x, .str pre]) h (UnO h (underK pre names)) := by
  conv in slim _ _ _ => cbv
  have k0 : Keep h (h.push (.map [])) [] := Keep.push h _
  have hx0 := hx.keep k0 (by simp)
  simp only [go_sem, reduceIte, Nat.reduceEqDiff, Nat.reduceAdd, Nat.reduceMul, Nat.reduceSub, Int.reduceLE, Int.reduceLT, Int.reduceNe, Int.reduceToNat, Int.reducePow, Int.reduceAdd, Int.reduceMul, reduceCtorEq, true_and, and_true, cond_true, cond_false, List.map_cons, List.map_nil, Option.map_some, Option.map_none, List.getElem?_cons_zero, List.getElem?_cons_succ, ne_eq, not_false_eq_true, List.nil_append, List.append_nil, List.cons_append, List.contains_cons, List.contains_nil, Nat.reduceBEq, Bool.or_false, Bool.false_or, Bool.true_or, Bool.or_true, len_gen sl48 hx0]
  refine wLoop_inv (fun k fr h1 => ∃ i es, k = names.length - i ∧ i ≤ names.length ∧ fr 1 = .str pre ∧ fr 5 = .map h.next ∧ fr 13 = x ∧ fr 14 = .int .i64 (names.length : Nat) ∧ fr 15 = .int .i64 (i : Nat) ∧ h1.get h.next = .map es ∧ es.map (·.1) = underK pre (names.take i) ∧ Keep h h1 [] ∧ h.next < h1.next) ?_ 100000 names.length _ _ (by omega)
    ⟨0, [], rfl, by omega, by simp only [go_sem, reduceIte, Nat.reduceEqDiff, Nat.reduceAdd, Nat.reduceMul, Nat.reduceSub, Int.reduceLE, Int.reduceLT, Int.reduceNe, Int.reduceToNat, Int.reducePow, Int.reduceAdd, Int.reduceMul, reduceCtorEq, true_and, and_true, cond_true, cond_false, List.map_cons, List.map_nil, Option.map_some, Option.map_none, List.getElem?_cons_zero, List.getElem?_cons_succ, ne_eq, not_false_eq_true, List.nil_append, List.append_nil, List.cons_append, List.contains_cons, List.contains_nil, Nat.reduceBEq, Bool.or_false, Bool.false_or, Bool.true_or, Bool.or_true], by simp only [go_sem, reduceIte, Nat.reduceEqDiff, Nat.reduceAdd, Nat.reduceMul, Nat.reduceSub, Int.reduceLE, Int.reduceLT, Int.reduceNe, Int.reduceToNat, Int.reducePow, Int.reduceAdd, Int.reduceMul, reduceCtorEq, true_and, and_true, cond_true, cond_false, List.map_cons, List.map_nil, Option.map_some, Option.map_none, List.getElem?_cons_zero, List.getElem?_cons_succ, ne_eq, not_false_eq_true, List.nil_append, List.append_nil, List.cons_append, List.contains_cons, List.contains_nil, Nat.reduceBEq, Bool.or_false, Bool.false_or, Bool.true_or, Bool.or_true], by simp only [go_sem, reduceIte, Nat.reduceEqDiff, Nat.reduceAdd, Nat.reduceMul, Nat.reduceSub, Int.reduceLE, Int.reduceLT, Int.reduceNe, Int.reduceToNat, Int.reducePow, Int.reduceAdd, Int.reduceMul, reduceCtorEq, true_and, and_true, cond_true, cond_false, List.map_cons, List.map_nil, Option.map_some, Option.map_none, List.getElem?_cons_zero, List.getElem?_cons_succ, ne_eq, not_false_eq_true, List.nil_append, List.append_nil, List.cons_append, List.contains_cons, List.contains_nil, Nat.reduceBEq, Bool.or_false, Bool.false_or, Bool.true_or, Bool.or_true], by simp only [go_sem, reduceIte, Nat.reduceEqDiff, Nat.reduceAdd, Nat.reduceMul, Nat.reduceSub, Int.reduceLE, Int.reduceLT, Int.reduceNe, Int.reduceToNat, Int.reducePow, Int.reduceAdd, Int.reduceMul, reduceCtorEq, true_and, and_true, cond_true, cond_false, List.map_cons, List.map_nil, Option.map_some, Option.map_none, List.getElem?_cons_zero, List.getElem?_cons_succ, ne_eq, not_false_eq_true, List.nil_append, List.append_nil, List.cons_append, List.contains_cons, List.contains_nil, Nat.reduceBEq, Bool.or_false, Bool.false_or, Bool.true_or, Bool.or_true], by simp only [go_sem, reduceIte, Nat.reduceEqDiff, Nat.reduceAdd, Nat.reduceMul, Nat.reduceSub, Int.reduceLE, Int.reduceLT, Int.reduceNe, Int.reduceToNat, Int.reducePow, Int.reduceAdd, Int.reduceMul, reduceCtorEq, true_and, and_true, cond_true, cond_false, List.map_cons, List.map_nil, Option.map_some, Option.map_none, List.getElem?_cons_zero, List.getElem?_cons_succ, ne_eq, not_false_eq_true, List.nil_append, List.append_nil, List.cons_append, List.contains_cons, List.contains_nil, Nat.reduceBEq, Bool.or_false, Bool.false_or, Bool.true_or, Bool.or_true]; rfl, get_push_new rfl, rfl, k0, Nat.lt_succ_self _⟩
  rintro k fr h1 ⟨i, es, rfl, hi, f1, f5, f13, f14, f15, hg, hes, hk, hlt⟩
  simp only [go_sem, reduceIte, Nat.reduceEqDiff, Nat.reduceAdd, Nat.reduceMul, Nat.reduceSub, Int.reduceLE, Int.reduceLT, Int.reduceNe, Int.reduceToNat, Int.reducePow, Int.reduceAdd, Int.reduceMul, reduceCtorEq, true_and, and_true, cond_true, cond_false, List.map_cons, List.map_nil, Option.map_some, Option.map_none, List.getElem?_cons_zero, List.getElem?_cons_succ, ne_eq, not_false_eq_true, List.nil_append, List.append_nil, List.cons_append, List.contains_cons, List.contains_nil, Nat.reduceBEq, Bool.or_false, Bool.false_or, Bool.true_or, Bool.or_true, f1, f5, f13, f14, f15]
  refine condK_intro (fun hc => ?_) (fun hc => ?_)
  case refine_2 =>
    have hc : i = names.length := by have := of_decide_eq_false hc; omega
    subst hc
    rw [List.take_length] at hes
    have hel : es.length ≤ 1000 := by
      have := congrArg List.length hes
      have := underK_len pre names
      simp at *; omega
    have em : aMake E0 h1 48 (.int .i64 0) (.int .i64 (es.length : Nat)) = some (.sl h1.next 0 0 es.length false, h1.push (.cells (repL (AV.str []).cells es.length) 9 .own)) := make_gen sl48 zero9 (n := 0) (Nat.zero_le _) (by omega)
    simp only [go_sem, reduceIte, Nat.reduceEqDiff, Nat.reduceAdd, Nat.reduceMul, Nat.reduceSub, Int.reduceLE, Int.reduceLT, Int.reduceNe, Int.reduceToNat, Int.reducePow, Int.reduceAdd, Int.reduceMul, reduceCtorEq, true_and, and_true, cond_true, cond_false, List.map_cons, List.map_nil, Option.map_some, Option.map_none, List.getElem?_cons_zero, List.getElem?_cons_succ, ne_eq, not_false_eq_true, List.nil_append, List.append_nil, List.cons_append, List.contains_cons, List.contains_nil, Nat.reduceBEq, Bool.or_false, Bool.false_or, Bool.true_or, Bool.or_true, f1, f5, f13, f14, f15, len170 hg, em]
    refine ⟨_, _, h.next, h1.next, es, rfl, by simp only [go_sem, reduceIte, Nat.reduceEqDiff, Nat.reduceAdd, Nat.reduceMul, Nat.reduceSub, Int.reduceLE, Int.reduceLT, Int.reduceNe, Int.reduceToNat, Int.reducePow, Int.reduceAdd, Int.reduceMul, reduceCtorEq, true_and, and_true, cond_true, cond_false, List.map_cons, List.map_nil, Option.map_some, Option.map_none, List.getElem?_cons_zero, List.getElem?_cons_succ, ne_eq, not_false_eq_true, List.nil_append, List.append_nil, List.cons_append, List.contains_cons, List.contains_nil, Nat.reduceBEq, Bool.or_false, Bool.false_or, Bool.true_or, Bool.or_true, f5], by simp only [go_sem, reduceIte, Nat.reduceEqDiff, Nat.reduceAdd, Nat.reduceMul, Nat.reduceSub, Int.reduceLE, Int.reduceLT, Int.reduceNe, Int.reduceToNat, Int.reducePow, Int.reduceAdd, Int.reduceMul, reduceCtorEq, true_and, and_true, cond_true, cond_false, List.map_cons, List.map_nil, Option.map_some, Option.map_none, List.getElem?_cons_zero, List.getElem?_cons_succ, ne_eq, not_false_eq_true, List.nil_append, List.append_nil, List.cons_append, List.contains_cons, List.contains_nil, Nat.reduceBEq, Bool.or_false, Bool.false_or, Bool.true_or, Bool.or_true], by rw [get_push_old hlt]; exact hg, ⟨_, get_push_new rfl, repL_one _ _⟩, hes, by omega, by simp; omega, by simp, (hk.trans (Keep.push h1 _)).mono (by simp), Nat.le_refl _, by omega⟩
  case refine_1 =>
    have hc : i < names.length := by have := of_decide_eq_true hc; omega
    have hsi : names[i]? = some names[i] := List.getElem?_eq_getElem hc
    have hsl := hs _ (List.getElem_mem hc)
    generalize names[i] = s at hsi hsl
    obtain ⟨p, e1, e2⟩ := index_load sl48 at9 (hx.keep hk (by simp)) (k := .i64) (strs_get hsi)
    obtain ⟨_, e3, h2, rfl, k2⟩ := key_con s hsl h1 n (by omega)
    have hg2 : h2.get h.next = .map es := by rw [k2.get _ hlt (by simp)]; exact hg
    have hk2 : Keep h h2 [] := (hk.trans k2).mono (by simp)
    have hlt2 : h.next < h2.next := Nat.lt_of_lt_of_le hlt k2.next
    cases hkf : keyF s with
    | none =>
      rw [hkf] at e3
      have hnx : underK pre (names.take (i + 1)) = underK pre (names.take i) := by rw [underK_next hsi]; unfold addU; rw [hkf]
      simp only [go_sem, reduceIte, Nat.reduceEqDiff, Nat.reduceAdd, Nat.reduceMul, Nat.reduceSub, Int.reduceLE, Int.reduceLT, Int.reduceNe, Int.reduceToNat, Int.reducePow, Int.reduceAdd, Int.reduceMul, reduceCtorEq, true_and, and_true, cond_true, cond_false, List.map_cons, List.map_nil, Option.map_some, Option.map_none, List.getElem?_cons_zero, List.getElem?_cons_succ, ne_eq, not_false_eq_true, List.nil_append, List.append_nil, List.cons_append, List.contains_cons, List.contains_nil, Nat.reduceBEq, Bool.or_false, Bool.false_or, Bool.true_or, Bool.or_true, f1, f5, f13, f14, f15, e1, e2, st_callf fs59, e3, Option.getD_none, Option.isSome_none, w_inc (show i ≤ 1000000000 by omega)]
      exact ⟨names.length - (i + 1), by omega, i + 1, es, rfl, by omega, rfl, hg2, by rw [hnx]; exact hes, hk2, hlt2⟩
    | some kk =>
      rw [hkf] at e3
      have hnx : underK pre (names.take (i + 1)) = if prefB kk pre = true ∧ kk ∉ underK pre (names.take i) then underK pre (names.take i) ++ [kk] else underK pre (names.take i) := by rw [underK_next hsi]; unfold addU; rw [hkf]
      obtain ⟨_, e4, rfl⟩ := hasPrefix_con kk pre h2 n (by omega)
      cases hp : prefB kk pre with
      | false =>
        rw [hp] at e4
        rw [if_neg (by simp [hp])] at hnx
        simp only [go_sem, reduceIte, Nat.reduceEqDiff, Nat.reduceAdd, Nat.reduceMul, Nat.reduceSub, Int.reduceLE, Int.reduceLT, Int.reduceNe, Int.reduceToNat, Int.reducePow, Int.reduceAdd, Int.reduceMul, reduceCtorEq, true_and, and_true, cond_true, cond_false, List.map_cons, List.map_nil, Option.map_some, Option.map_none, List.getElem?_cons_zero, List.getElem?_cons_succ, ne_eq, not_false_eq_true, List.nil_append, List.append_nil, List.cons_append, List.contains_cons, List.contains_nil, Nat.reduceBEq, Bool.or_false, Bool.false_or, Bool.true_or, Bool.or_true, f1, f5, f13, f14, f15, e1, e2, st_callf fs59, st_callf fs102, e3, e4, Option.getD_some, Option.isSome_some, w_inc (show i ≤ 1000000000 by omega)]
        exact ⟨names.length - (i + 1), by omega, i + 1, es, rfl, by omega, rfl, hg2, by rw [hnx]; exact hes, hk2, hlt2⟩
      | true =>
        rw [hp] at e4
        simp only [go_sem, reduceIte, Nat.reduceEqDiff, Nat.reduceAdd, Nat.reduceMul, Nat.reduceSub, Int.reduceLE, Int.reduceLT, Int.reduceNe, Int.reduceToNat, Int.reducePow, Int.reduceAdd, Int.reduceMul, reduceCtorEq, true_and, and_true, cond_true, cond_false, List.map_cons, List.map_nil, Option.map_some, Option.map_none, List.getElem?_cons_zero, List.getElem?_cons_succ, ne_eq, not_false_eq_true, List.nil_append, List.append_nil, List.cons_append, List.contains_cons, List.contains_nil, Nat.reduceBEq, Bool.or_false, Bool.false_or, Bool.true_or, Bool.or_true, f1, f5, f13, f14, f15, e1, e2, st_callf fs59, st_callf fs102, e3, e4, Option.getD_some, Option.isSome_some, w_inc (show i ≤ 1000000000 by omega), build172, updV_at sm170 hg2]
        refine ⟨names.length - (i + 1), by omega, i + 1, insK kk (.agg []) es, rfl, by omega, rfl, get_set_same, ?_, keep_set hk2 (Nat.le_refl _), by simpa using hlt2⟩
        rw [hnx, insK_keys, hes]
        by_cases hm : kk ∈ underK pre (names.take i)
        · rw [if_pos hm, if_neg (by simp [hm])]
        · rw [if_neg hm, if_pos ⟨hp, hm⟩]

theorem under_con {x : AV} {names : List (List UInt8)} (pre : List UInt8) {h : AH} (hx : GS 1 h x names.length (strs names)) (hl : names.length ≤ 1000) (hs : ∀ s ∈ names, s.length ≤ 9223372036854775807) :
    Con E0 sp0 100000 8 61 [x, .str pre] h fun o => ∃ v h', o = .ret v h' ∧ GS 1 h' v (underK pre names).length (strs (sortB (underK pre names))) ∧ Keep h h' [] := by
  intro n hn
  obtain ⟨k, rfl⟩ : ∃ k, n = k + 1 := ⟨n - 1, by omega⟩
  obtain ⟨r, hc, fr, h1, mi, j, es, rfl, h5, h10, hgm, ⟨cs, hgj, hcl⟩, hes, hne, c5, c6, hk, hm0, hj0⟩ := wCode_sound _ _ _ _ (under_pre pre hx hl hs k (by omega))
  have hlen : es.length = (underK pre names).length := by rw [← hes]; simp
  have hel : es.length ≤ 1000 := by
    have := underK_len pre names
    omega
  have b1 : Nat.beq es.length es.length = true := by simp
  have b2 : Nat.beq cs.length es.length = true := by rw [hcl]; simp
  have b3 : Nat.ble es.length 1000000 = true := Nat.ble_eq_true_of_le (by omega)
  have b4 : Nat.beq mi j = false := beqF hne
  have b5 : Nat.blt mi h1.next = true := Nat.ble_eq_true_of_le c5
  have b6 : Nat.blt j h1.next = true := Nat.ble_eq_true_of_le c6
  refine ⟨.ret (.sl j 0 es.length es.length false) (((h1.set mi .dead).set j (.cells (textsA (sortB (es.map (·.1)))) 9 .own)).grow (es.length + 1)), ?_, _, _, rfl, ?_, ?_⟩
  · show underSp (aCall E0 sp0 100000 k) [x, .str pre] h = _
    unfold underSp
    simp only [hc]
    unfold underTail
    simp only [h5, h10, hgm, hgj, b1, b2, b3, b4, b5, b6, Bool.and_self, Bool.not_false, cond_true, Bool.and_true, Bool.true_and]
  · rw [hes]
    have hsl : (sortB (underK pre names)).length = (underK pre names).length := by
      unfold sortB
      exact List.length_mergeSort ..
    refine ⟨⟨hlen, fun _ => Nat.le_of_eq hlen.symm⟩, by rw [strs_len, hsl]; simp, by simp [AH.grow]; omega, textsA (sortB (underK pre names)), 9, .own, ?_, ?_, ?_⟩
    · rw [grow_get (by simpa using c6), get_set_same]
    · simp [textsA, hsl]
    · rw [List.drop_zero]
      have : (textsA (sortB (underK pre names))).length = (underK pre names).length * 1 := by simp [textsA, hsl]
      rw [← this, List.take_length]
      rfl
  · exact ((keep_set (keep_set hk hm0) hj0).trans (Keep.grow _ _)).mono (by simp)
end Go.Proofs.Yteblojfcalgoeaa

/- Plain laws of names: what is read is what was written; order; what is no name. Conditions: none. -/
set_option linter.unusedVariables false
set_option linter.unusedSimpArgs false
namespace Go.Proofs.Yteblojfcalgoeaa
open Go Go.RowKit
set_option maxRecDepth 100000

theorem bl_eq : ∀ x y : List UInt8, Op.bytesLess x y = decide (x < y)
  | [], [] => by simp [Op.bytesLess]
  | [], b :: y => by simp [Op.bytesLess]
  | a :: x, [] => by simp [Op.bytesLess]
  | a :: x, b :: y => by
      have ih := bl_eq x y
      unfold Op.bytesLess
      rw [ih]
      simp only [List.cons_lt_cons_iff]
      by_cases h1 : a < b
      · simp [h1]
      · by_cases h2 : a = b
        · subst h2; simp [h1]
        · simp [h1, h2]
theorem u8_lt (x y : Nat) (hx : x < 256) (hy : y < 256) : UInt8.ofNat x < UInt8.ofNat y ↔ x < y := by
  rw [UInt8.lt_iff_toNat_lt]
  simp [Nat.mod_eq_of_lt hx, Nat.mod_eq_of_lt hy]
theorem u8_eq (x y : Nat) (hx : x < 256) (hy : y < 256) : UInt8.ofNat x = UInt8.ofNat y ↔ x = y := by
  rw [← UInt8.toNat_inj]
  simp [Nat.mod_eq_of_lt hx, Nat.mod_eq_of_lt hy]
theorem digit_mono {a b : Nat} (ha : a < 16) (hb : b < 16) : (digitN a < digitN b ↔ a < b) ∧ (digitN a = digitN b ↔ a = b) := by
  unfold digitN
  split <;> split <;> omega
theorem hexB_cons (a : UInt8) (s : List UInt8) : hexB (a :: s) = UInt8.ofNat (digitN (a.toNat / 16)) :: UInt8.ofNat (digitN (a.toNat % 16)) :: hexB s := rfl
theorem hex_lt : ∀ s t : List UInt8, hexB s < hexB t ↔ s < t
  | [], [] => by simp [hexB]
  | [], b :: y => by simp [hexB_cons, hexB]
  | a :: x, [] => by simp [hexB_cons, hexB]
  | a :: x, b :: y => by
      have ih := hex_lt x y
      have ha := a.toNat_lt
      have hb := b.toNat_lt
      have h1 := digit_mono (a := a.toNat / 16) (b := b.toNat / 16) (by omega) (by omega)
      have h2 := digit_mono (a := a.toNat % 16) (b := b.toNat % 16) (by omega) (by omega)
      have d1 := digitN_lt (n := a.toNat / 16) (by omega)
      have d2 := digitN_lt (n := b.toNat / 16) (by omega)
      have d3 := digitN_lt (n := a.toNat % 16) (by omega)
      have d4 := digitN_lt (n := b.toNat % 16) (by omega)
      rw [hexB_cons, hexB_cons, List.cons_lt_cons_iff, List.cons_lt_cons_iff, List.cons_lt_cons_iff, ih, u8_lt _ _ d1 d2, u8_eq _ _ d1 d2, u8_lt _ _ d3 d4, u8_eq _ _ d3 d4, h1.1, h1.2, h2.1, h2.2, UInt8.lt_iff_toNat_lt, ← UInt8.toNat_inj]
      by_cases hp : x < y <;> simp [hp] <;> omega
theorem name_lt (s t : List UInt8) : nameB s < nameB t ↔ s < t := by
  unfold nameB
  rw [List.cons_lt_cons_iff, hex_lt]
  simp
theorem value_digit {n : Nat} (h : n < 16) : valueN (digitN n) = some n := by
  unfold valueN digitN
  by_cases h1 : n < 10
  · rw [if_pos h1, if_pos (by omega)]; congr 1; omega
  · rw [if_neg h1, if_neg (by omega), if_pos (by omega)]; congr 1; omega
theorem dec_hex : ∀ s : List UInt8, decH (hexB s) = some s
  | [] => rfl
  | a :: s => by
      have ha := a.toNat_lt
      have d1 := digitN_lt (n := a.toNat / 16) (by omega)
      have d2 := digitN_lt (n := a.toNat % 16) (by omega)
      rw [hexB_cons, decH]
      have e1 : (UInt8.ofNat (digitN (a.toNat / 16))).toNat = digitN (a.toNat / 16) := by simp [Nat.mod_eq_of_lt d1]
      have e2 : (UInt8.ofNat (digitN (a.toNat % 16))).toNat = digitN (a.toNat % 16) := by simp [Nat.mod_eq_of_lt d2]
      rw [e1, e2, value_digit (by omega), value_digit (by omega), dec_hex s]
      have : a.toNat / 16 * 16 + a.toNat % 16 = a.toNat := by omega
      simp [this]
theorem hexB_inj {s t : List UInt8} (h : hexB s = hexB t) : s = t := by
  have := dec_hex s
  rw [h, dec_hex t] at this
  exact (Option.some.inj this).symm
theorem name_eq (s t : List UInt8) : (nameB s == nameB t) = (s == t) := by
  by_cases h : s = t
  · subst h; simp
  · have : nameB s ≠ nameB t := fun e => h (hexB_inj (by unfold nameB at e; exact (List.cons.inj e).2))
    rw [beq_false_of_ne h, beq_false_of_ne this]
theorem name_bl (s t : List UInt8) : Op.bytesLess (nameB s) (nameB t) = Op.bytesLess s t := by
  rw [bl_eq, bl_eq]
  by_cases h : s < t
  · simp [h, (name_lt s t).2 h]
  · have : ¬ nameB s < nameB t := fun e => h ((name_lt s t).1 e)
    simp [h, this]
theorem name_len (s : List UInt8) : (nameB s).length = 2 * s.length + 1 := by simp [nameB, hexB_len]
theorem key_name {s : List UInt8} (h : objOK s = true) : keyF (nameB s) = some s := by
  unfold objOK at h
  simp at h
  obtain ⟨h0, h1⟩ := h
  have hl := hexB_len s
  have hp : 0 < s.length := List.length_pos_iff.2 h0
  have hd : (nameB s).drop 1 = hexB s := rfl
  unfold keyF
  rw [if_pos ⟨by simp [prefB, nameB], by rw [hd]; intro e; rw [e] at hl; simp at hl; omega, by rw [hd, hl]; omega, by rw [hd, hl]; omega⟩, hd, dec_hex]
theorem kind_name {s : List UInt8} (h : objOK s = true) : kindF (nameB s) = 1 := by
  have hk := key_name h
  have h1 : nameB s ≠ [116] := by simp [nameB]
  have h2 : nameB s ≠ [108] := by simp [nameB]
  unfold kindF
  rw [if_neg h1, if_neg h2, if_pos (by rw [hk]; rfl)]
theorem kind_none {s : List UInt8} (h : keyF s = none) (h1 : s ≠ [116]) (h2 : s ≠ [108]) : kindF s = 0 := by
  unfold kindF
  rw [if_neg h1, if_neg h2, h]; rfl

/-- What no name is. -/
def badL (s : List UInt8) : List (List UInt8) := [(nameB s).take (2 * s.length), nameB s ++ [70, 48], hexB s, 79 :: hexB s]
theorem dec_big : ∀ s : List UInt8, decH (hexB s ++ [70, 48]) = none
  | [] => by decide
  | a :: s => by
      rw [hexB_cons, List.cons_append, List.cons_append, decH, dec_big s]
      split <;> first | rfl | (rename_i h; simp at h)
theorem hex_head {s : List UInt8} {c : UInt8} {r : List UInt8} (h : hexB s = c :: r) : c ≠ 111 ∧ c.toNat < 103 := by
  cases s with
  | nil => simp [hexB] at h
  | cons a s =>
    rw [hexB_cons] at h
    have ha := a.toNat_lt
    have d1 : digitN (a.toNat / 16) < 103 := by unfold digitN; split <;> omega
    have hc : c.toNat = digitN (a.toNat / 16) := by
      have := (List.cons.inj h).1
      rw [← this]; simp; omega
    refine ⟨fun e => ?_, by omega⟩
    rw [e] at hc
    have : (111 : UInt8).toNat = 111 := rfl
    omega
theorem bad_none {s : List UInt8} (h0 : s ≠ []) : ∀ b ∈ badL s, keyF b = none ∧ kindF b = 0 := by
  have hp : 0 < s.length := List.length_pos_iff.2 h0
  have hl := hexB_len s
  have key : ∀ b ∈ badL s, keyF b = none ∧ b.length ≠ 1 := by
    intro b hb
    simp only [badL, List.mem_cons, List.not_mem_nil, or_false] at hb
    rcases hb with rfl | rfl | rfl | rfl
    · have e : (nameB s).take (2 * s.length) = 111 :: (hexB s).take (2 * s.length - 1) := by
        obtain ⟨k, hk⟩ : ∃ k, 2 * s.length = k + 1 := ⟨2 * s.length - 1, by omega⟩
        rw [hk, nameB, List.take_succ_cons]; rfl
      rw [e]
      refine ⟨?_, by simp [hl]; omega⟩
      unfold keyF
      rw [if_neg]
      rintro ⟨_, _, h3, _⟩
      simp [hl] at h3
      omega
    · refine ⟨?_, by simp [name_len]⟩
      unfold keyF
      have hd : (nameB s ++ [70, 48]).drop 1 = hexB s ++ [70, 48] := rfl
      split
      · rw [hd, dec_big]
      · rfl
    · refine ⟨?_, by omega⟩
      unfold keyF
      rw [if_neg]
      rintro ⟨h1, _⟩
      cases hh : hexB s with
      | nil => rw [hh] at hl; simp at hl; omega
      | cons c r =>
        rw [hh] at h1
        simp [prefB] at h1
        exact (hex_head hh).1 h1
    · refine ⟨?_, by simp [hl]; omega⟩
      unfold keyF
      rw [if_neg]
      rintro ⟨h1, _⟩
      simp [prefB] at h1
  intro b hb
  obtain ⟨h1, h2⟩ := key b hb
  exact ⟨h1, kind_none h1 (fun e => h2 (by rw [e]; rfl)) (fun e => h2 (by rw [e]; rfl))⟩
end Go.Proofs.Yteblojfcalgoeaa

/- Plain laws of names: of which kind a text is; which keys are due, rising, each once. Conditions: none. -/
set_option linter.unusedVariables false
set_option linter.unusedSimpArgs false
namespace Go.Proofs.Yteblojfcalgoeaa
open Go Go.RowKit
set_option maxRecDepth 100000

def hexc (c : UInt8) : Bool := (decide (48 ≤ c.toNat) && decide (c.toNat ≤ 57)) || (decide (97 ≤ c.toNat) && decide (c.toNat ≤ 102))
theorem value_some (c : UInt8) : (valueN c.toNat).isSome = hexc c := by
  unfold valueN hexc
  by_cases h1 : 48 ≤ c.toNat ∧ c.toNat ≤ 57
  · rw [if_pos h1]; simp [h1]
  · rw [if_neg h1]
    by_cases h2 : 97 ≤ c.toNat ∧ c.toNat ≤ 102
    · rw [if_pos h2]; simp [h2]
    · rw [if_neg h2]
      have e1 : (decide (48 ≤ c.toNat) && decide (c.toNat ≤ 57)) = false := by
        rw [← Bool.not_eq_true]; simpa using h1
      have e2 : (decide (97 ≤ c.toNat) && decide (c.toNat ≤ 102)) = false := by
        rw [← Bool.not_eq_true]; simpa using h2
      rw [e1, e2]; rfl
theorem dec_some : ∀ l : List UInt8, (decH l).isSome = (decide (l.length % 2 = 0) && l.all hexc)
  | [] => rfl
  | [a] => rfl
  | a :: b :: r => by
      have ih := dec_some r
      have ha := value_some a
      have hb := value_some b
      have hl : (a :: b :: r).length % 2 = r.length % 2 := by simp; omega
      rw [decH, hl, List.all_cons, List.all_cons, ← ha, ← hb]
      cases valueN a.toNat with
      | none => simp
      | some x => cases valueN b.toNat with
        | none => simp
        | some y => cases hd : decH r with
          | none => rw [hd] at ih; simpa using ih
          | some l => rw [hd] at ih; simpa using ih
/-- Whether a text is an object's name. -/
def right0 (s : List UInt8) : Bool := decide (2 < s.length) && decide (s.length < 512) && decide (s.length % 2 = 1) && (s[0]? == some 111)
def rightB (s : List UInt8) : Bool := right0 s && (s.drop 1).all hexc
theorem prefB_o (s : List UInt8) : prefB s [111] = (s[0]? == some 111) := by
  cases s with
  | nil => rfl
  | cons a r => simp [prefB]
theorem key_right (s : List UInt8) : (keyF s).isSome = rightB s := by
  unfold keyF rightB right0
  rw [prefB_o]
  have hd := dec_some (s.drop 1)
  have hl : (s.drop 1).length = s.length - 1 := by simp
  split
  · rename_i h
    obtain ⟨h1, h2, h3, h4⟩ := h
    have h5 : 0 < (s.drop 1).length := List.length_pos_iff.2 h2
    rw [hd, decide_eq_true h3, h1, decide_eq_true (show 2 < s.length by omega), decide_eq_true (show s.length < 512 by omega), decide_eq_true (show s.length % 2 = 1 by omega)]
    rfl
  · rename_i h
    symm
    rw [Option.isSome_none, ← Bool.not_eq_true]
    intro e
    simp only [Bool.and_eq_true, decide_eq_true_eq] at e
    obtain ⟨⟨⟨⟨e1, e2⟩, e3⟩, e4⟩, e5⟩ := e
    exact h ⟨e4, fun e => by rw [e] at hl; simp at hl; omega, by omega, by omega⟩
theorem kind_right (s : List UInt8) : kindF s = if s = [116] then 2 else if s = [108] then 3 else if rightB s = true then 1 else 0 := by
  unfold kindF
  rw [key_right]

/-! ### The keys that are due -/
def insS (t : List UInt8) : List (List UInt8) → List (List UInt8)
  | [] => [t]
  | x :: r => if x < t then x :: insS t r else if x = t then x :: r else t :: x :: r
theorem insS_mem (t : List UInt8) : ∀ (l : List (List UInt8)) (x : List UInt8), x ∈ insS t l ↔ x = t ∨ x ∈ l
  | [], x => by simp [insS]
  | y :: r, x => by
      have ih := insS_mem t r x
      unfold insS
      split
      · rw [List.mem_cons, ih, List.mem_cons]
        constructor
        · rintro (h | h | h)
          · exact .inr (.inl h)
          · exact .inl h
          · exact .inr (.inr h)
        · rintro (h | h | h)
          · exact .inr (.inl h)
          · exact .inl h
          · exact .inr (.inr h)
      · split
        · rename_i h1 h2
          subst h2
          rw [List.mem_cons]
          constructor
          · rintro (h | h)
            · exact .inl h
            · exact .inr (.inr h)
          · rintro (h | h | h)
            · exact .inl h
            · exact .inl h
            · exact .inr h
        · rw [List.mem_cons]
theorem lt_of_not {x y : List UInt8} (h : ¬ x < y) (hn : x ≠ y) : y < x := by
  have h1 : y ≤ x := h
  exact Std.lt_of_le_of_ne h1 (Ne.symm hn)
theorem insS_sorted (t : List UInt8) : ∀ (l : List (List UInt8)), l.Pairwise (· < ·) → (insS t l).Pairwise (· < ·)
  | [], _ => by simp [insS]
  | y :: r, h => by
      obtain ⟨h1, h2⟩ := List.pairwise_cons.1 h
      have ih := insS_sorted t r h2
      unfold insS
      split
      · rename_i hy
        refine List.pairwise_cons.2 ⟨fun x hx => ?_, ih⟩
        rcases (insS_mem t r x).1 hx with rfl | hx
        · exact hy
        · exact h1 x hx
      · split
        · exact h
        · rename_i hy hn
          have hty := lt_of_not hy hn
          refine List.pairwise_cons.2 ⟨fun x hx => ?_, h⟩
          rcases List.mem_cons.1 hx with rfl | hx
          · exact hty
          · exact List.lt_trans hty (h1 x hx)
/-- What stands at the place, and where it is put. -/
theorem insS_at (t : List UInt8) : ∀ (l : List (List UInt8)) (a : Nat), a ≤ l.length → (∀ j x, j < a → l[j]? = some x → x < t) → (∀ x, l[a]? = some x → ¬ x < t) →
    insS t l = if l[a]? = some t then l else l.take a ++ t :: l.drop a
  | [], a, ha, _, _ => by
      have : a = 0 := by simpa using ha
      subst this
      simp [insS]
  | y :: r, 0, _, _, h2 => by
      have hy := h2 y rfl
      unfold insS
      rw [if_neg hy]
      by_cases e : y = t
      · rw [if_pos e, if_pos (by simp [e])]
      · rw [if_neg e, if_neg (by simpa using e)]; rfl
  | y :: r, a + 1, ha, h1, h2 => by
      have hy := h1 0 y (by omega) rfl
      have ih := insS_at t r a (by simpa using ha) (fun j x hj hx => h1 (j + 1) x (by omega) (by simpa using hx)) (fun x hx => h2 x (by simpa using hx))
      unfold insS
      rw [if_pos hy, ih]
      simp only [List.getElem?_cons_succ]
      split <;> rfl
/-- The keys that are due, among the first. -/
def addD (pre : List UInt8) (l : List (List UInt8)) (t : List UInt8) : List (List UInt8) := if prefB t pre = true then insS t l else l
def dueK (pre : List UInt8) (ts : List (List UInt8)) : List (List UInt8) := ts.foldl (addD pre) []
theorem foldD (pre : List UInt8) : ∀ (ts l : List (List UInt8)), l.Pairwise (· < ·) → (ts.foldl (addD pre) l).Pairwise (· < ·) ∧ ∀ x, x ∈ ts.foldl (addD pre) l ↔ x ∈ l ∨ (x ∈ ts ∧ prefB x pre = true)
  | [], l, h => ⟨h, fun x => by simp⟩
  | t :: r, l, h => by
      have h1 : (addD pre l t).Pairwise (· < ·) := by
        unfold addD; split
        · exact insS_sorted t l h
        · exact h
      have hm : ∀ x, x ∈ addD pre l t ↔ x ∈ l ∨ (x = t ∧ prefB x pre = true) := fun x => by
        unfold addD
        split
        · rename_i hp
          rw [insS_mem]
          constructor
          · rintro (rfl | h)
            · exact .inr ⟨rfl, hp⟩
            · exact .inl h
          · rintro (h | ⟨h, _⟩)
            · exact .inr h
            · exact .inl h
        · rename_i hp
          constructor
          · exact .inl
          · rintro (h | ⟨rfl, h⟩)
            · exact h
            · exact absurd h hp
      obtain ⟨i1, i2⟩ := foldD pre r (addD pre l t) h1
      refine ⟨i1, fun x => ?_⟩
      rw [List.foldl_cons, i2, hm, List.mem_cons]
      constructor
      · rintro ((h | ⟨h, p⟩) | ⟨h, p⟩)
        · exact .inl h
        · exact .inr ⟨.inl h, p⟩
        · exact .inr ⟨.inr h, p⟩
      · rintro (h | ⟨h | h, p⟩)
        · exact .inl (.inl h)
        · exact .inl (.inr ⟨h, p⟩)
        · exact .inr ⟨h, p⟩
theorem foldU (pre : List UInt8) : ∀ (ns l : List (List UInt8)), l.Nodup → (ns.foldl (addU pre) l).Nodup ∧ ∀ x, x ∈ ns.foldl (addU pre) l ↔ x ∈ l ∨ ((∃ s ∈ ns, keyF s = some x) ∧ prefB x pre = true)
  | [], l, h => ⟨h, fun x => by simp⟩
  | s :: r, l, h => by
      have key : (addU pre l s).Nodup ∧ ∀ x, x ∈ addU pre l s ↔ x ∈ l ∨ (keyF s = some x ∧ prefB x pre = true) := by
        unfold addU
        split
        · rename_i k hk
          split
          · rename_i hp
            refine ⟨List.nodup_append.2 ⟨h, by simp, fun a ha b hb => ?_⟩, fun x => ?_⟩
            · simp at hb; subst hb; intro e; subst e; exact hp.2 ha
            · rw [List.mem_append, List.mem_singleton]
              constructor
              · rintro (h | rfl)
                · exact .inl h
                · exact .inr ⟨hk, hp.1⟩
              · rintro (h | ⟨h, _⟩)
                · exact .inl h
                · rw [hk] at h; exact .inr (Option.some.inj h).symm
          · rename_i hp
            refine ⟨h, fun x => ⟨.inl, ?_⟩⟩
            rintro (h | ⟨h1, h2⟩)
            · exact h
            · rw [hk] at h1
              have := Option.some.inj h1
              subst this
              exact Classical.byContradiction fun hn => hp ⟨h2, hn⟩
        · rename_i hk
          refine ⟨h, fun x => ⟨.inl, ?_⟩⟩
          rintro (h | ⟨h1, h2⟩)
          · exact h
          · rw [hk] at h1; cases h1
      obtain ⟨i1, i2⟩ := foldU pre r (addU pre l s) key.1
      refine ⟨i1, fun x => ?_⟩
      rw [List.foldl_cons, i2, key.2]
      constructor
      · rintro ((h | ⟨h, p⟩) | ⟨⟨y, hy, h⟩, p⟩)
        · exact .inl h
        · exact .inr ⟨⟨s, List.mem_cons_self, h⟩, p⟩
        · exact .inr ⟨⟨y, List.mem_cons_of_mem _ hy, h⟩, p⟩
      · rintro (h | ⟨⟨y, hy, h⟩, p⟩)
        · exact .inl (.inl h)
        · rcases List.mem_cons.1 hy with rfl | hy
          · exact .inl (.inr ⟨h, p⟩)
          · exact .inr ⟨⟨y, hy, h⟩, p⟩
/-- All texts that are told to Under. -/
def allK (ts : List (List UInt8)) : List (List UInt8) := ts.flatMap fun k => [nameB k, [116], nameB k]
theorem due_is (pre other : List UInt8) (ts : List (List UInt8)) (hts : ∀ t ∈ ts, objOK t = true) : sortB (underK pre (allK ts ++ if rightB other = true then [] else [other])) = dueK pre ts := by
  obtain ⟨d1, d2⟩ := foldD pre ts [] List.Pairwise.nil
  obtain ⟨u1, u2⟩ := foldU pre (allK ts ++ if rightB other = true then [] else [other]) [] List.nodup_nil
  have hm : ∀ x, x ∈ underK pre (allK ts ++ if rightB other = true then [] else [other]) ↔ x ∈ dueK pre ts := fun x => by
    unfold underK dueK
    rw [u2, d2]
    simp only [List.not_mem_nil, false_or]
    refine and_congr_left fun hp => ?_
    constructor
    · rintro ⟨s, hs, hk⟩
      rcases List.mem_append.1 hs with hs | hs
      · obtain ⟨k, hk1, hk2⟩ := List.mem_flatMap.1 hs
        simp only [List.mem_cons, List.not_mem_nil, or_false] at hk2
        rcases hk2 with rfl | rfl | rfl
        · rw [key_name (hts k hk1)] at hk; cases hk; exact hk1
        · rw [show keyF [116] = none from by decide] at hk; cases hk
        · rw [key_name (hts k hk1)] at hk; cases hk; exact hk1
      · by_cases hr : rightB other = true
        · rw [if_pos hr] at hs; simp at hs
        · rw [if_neg hr] at hs
          simp at hs
          subst hs
          have := key_right s
          rw [hk] at this
          exact absurd this.symm hr
    · intro hx
      exact ⟨nameB x, List.mem_append_left _ (List.mem_flatMap.2 ⟨x, hx, by simp⟩), key_name (hts x hx)⟩
  have hnd : (dueK pre ts).Nodup := d1.imp fun h e => by subst e; exact List.lt_irrefl _ h
  have hperm : (underK pre (allK ts ++ if rightB other = true then [] else [other])).Perm (dueK pre ts) := (List.perm_ext_iff_of_nodup u1 hnd).2 hm
  rw [sortB_perm hperm]
  unfold sortB
  refine List.mergeSort_of_pairwise (d1.imp fun {a b} h => ?_)
  simp only [decide_eq_true_eq]
  exact List.le_of_lt h
end Go.Proofs.Yteblojfcalgoeaa
