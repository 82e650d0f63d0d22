/- Parts of the abstract machine and of its laws, joined. Conditions: none. -/
import Derived.Test.YteblojfcalgoeaaMV
set_option linter.unusedVariables false
set_option linter.unusedSimpArgs false
/- Seat 1: the closure that reads the items. Conditions: none. -/
namespace Go.Proofs.Yteblojfcalgoeaa
open Go Go.RowKit
set_option maxRecDepth 100000
set_option linter.unusedSimpArgs false
set_option linter.unusedVariables false

@[go_sem] theorem la_22 {o : Nat} {cs : List AV} {t : TypeId} {m : Mode} : loadAt E0 22 o (.cells cs t m) = cs[o]? := loadAt_atom (by kernel_rfl)
@[go_sem] theorem bin_rem8 {t : TypeId} {k : IntKind} {a : Int} : aBin E0 .rem t (.int k a) (.int k 8) = some (.int k (a.tmod 8)) := bin_rem (by decide)
@[go_sem] theorem bin_quo2 {t : TypeId} {k : IntKind} {a : Int} : aBin E0 .quo t (.int k a) (.int k 2) = some (.int k (k.wrap (a.tdiv 2))) := bin_quo (by decide)
theorem beq_nat (a b : Nat) : ((a : Int) == (b : Int)) = (a == b) := by
  rw [Bool.eq_iff_iff]; simp; omega
theorem tmod8 (k : Nat) : Int.tmod (k : Int) 8 = ((k % 8 : Nat) : Int) := by
  rw [Int.tmod_eq_emod_of_nonneg (by omega)]; omega
theorem tdiv2 (k : Nat) : Int.tdiv (k : Int) 2 = ((k / 2 : Nat) : Int) := by
  rw [Int.tdiv_eq_ediv_of_nonneg (by omega)]; omega

/-- Behind the reading of one item. -/
def BrA (ri : Nat) (bv : AV) (bs : List UInt8) (at_ : Nat) (fr : Nat → AV) (h' : AH) : DR Bool → Prop
  | .ok b k => fr 9 = .bool b ∧ RD h' ri bv bs (at_ + k) 0
  | .bad e => RD h' ri bv bs at_ (e : Nat)
def BrO (ri : Nat) (bv : AV) (bs : List UInt8) (at_ : Nat) (H : AH) (a1 a2 a3 a4 : AV) (F : DR Bool) (r : CR) : Prop :=
  ∃ fr h', r = .go 0 fr h' ∧ fr 5 = a1 ∧ fr 17 = a2 ∧ fr 18 = a3 ∧ fr 19 = a4 ∧ Keep H h' [ri] ∧ BrA ri bv bs at_ fr h' F

theorem reads_con (v lv : AV) (bs : List UInt8) (l : List It) (bx B : Nat) (h : AH) (hb : BS h v bs) (hn : bs.length ≤ 1000000) (hx : h.get bx = .cells [lv] 22 .own) (hxl : bx < h.next) (hl : ItS B h lv l) (hll : l.length ≤ 1000) :
    Con E0 sp0 100000 9 19 [v, .ptr bx 0] h fun o => ∃ h', o = .ret (.tup [.bool (readsF l bs).1, .int .i64 ((readsF l bs).2 : Nat)]) h' ∧ Keep h h' [] := by
  refine Con.of_body rfl fn19 fun n hn2 => ⟨rfl, ?_⟩
  conv in slim _ _ _ => cbv
  have k0 := Keep.push h (.cells [] 5 .own)
  obtain ⟨v2, h2, e2, ho2, hg2⟩ := append_own byte24 seq24 (own_none (h := h)) (hb.keep k0 (by simp)).news (by simpa using (by omega : bs.length ≤ 140737488355328))
  rw [List.nil_append] at ho2
  have k2 : Keep h h2 [] := (hg2.fresh0 rfl).keep
  obtain ⟨_, e3, ri, h3, bv, rfl, hr3, k3, hri, hbv⟩ := open_con v2 bs h2 ho2.bs (by omega) n (by omega)
  have hk3 : Keep h h3 [] := (k2.trans k3).mono (by simp)
  have hri0 : h.next ≤ ri := Nat.le_trans k2.next hri
  have hbv0 : ∀ j ∈ ids bv, h.next ≤ j := fun j hj => Nat.le_trans k2.next (hbv j hj)
  have hx3 : h3.get bx = .cells [lv] 22 .own := by rw [hk3.get _ hxl (by simp)]; exact hx
  have hlen : ∀ h' : AH, Keep h h' [] → qBuiltin E0 h' .len [lv] [22] = some (.int .i64 (l.length : Nat)) := fun h' k => by
    obtain ⟨_, _, cs, a, _⟩ := hl.keep k (by simp)
    exact len_gen sl22 a
  simp only [go_sem, reduceIte, Nat.reduceEqDiff, Nat.reduceAdd, Nat.reduceMul, Nat.reduceSub, Int.reduceLE, Int.reduceLT, Int.reduceNe, Int.reduceToNat, Int.reducePow, Int.reduceAdd, Int.reduceMul, reduceCtorEq, true_and, and_true, cond_true, cond_false, List.map_cons, List.map_nil, Option.map_some, Option.map_none, List.getElem?_cons_zero, List.getElem?_cons_succ, ne_eq, not_false_eq_true, List.nil_append, List.append_nil, List.cons_append, List.contains_cons, List.contains_nil, Nat.reduceBEq, Bool.or_false, Bool.false_or, Bool.true_or, Bool.or_true, build_none, e2, e3, hx3, hlen h3 hk3]
  refine wLoop_inv (fun k fr h1 => ∃ i at_, k = l.length - i ∧ i ≤ l.length ∧ fr 5 = .ptr ri 0 ∧ fr 17 = lv ∧ fr 18 = .int .i64 (l.length : Nat) ∧ fr 19 = .int .i64 (i : Nat) ∧ RD h1 ri bv bs at_ 0 ∧ Keep h h1 [] ∧ readsF l bs = readsF (l.drop i) (bs.drop at_)) ?_ 100000 l.length _ _ (by omega)
    ⟨0, 0, rfl, by omega, by simp only [go_sem, reduceIte, Nat.reduceEqDiff, Nat.reduceAdd, Nat.reduceMul, Nat.reduceSub, Int.reduceLE, Int.reduceLT, Int.reduceNe, Int.reduceToNat, Int.reducePow, Int.reduceAdd, Int.reduceMul, reduceCtorEq, true_and, and_true, cond_true, cond_false, List.map_cons, List.map_nil, Option.map_some, Option.map_none, List.getElem?_cons_zero, List.getElem?_cons_succ, ne_eq, not_false_eq_true, List.nil_append, List.append_nil, List.cons_append, List.contains_cons, List.contains_nil, Nat.reduceBEq, Bool.or_false, Bool.false_or, Bool.true_or, Bool.or_true], by simp only [go_sem, reduceIte, Nat.reduceEqDiff, Nat.reduceAdd, Nat.reduceMul, Nat.reduceSub, Int.reduceLE, Int.reduceLT, Int.reduceNe, Int.reduceToNat, Int.reducePow, Int.reduceAdd, Int.reduceMul, reduceCtorEq, true_and, and_true, cond_true, cond_false, List.map_cons, List.map_nil, Option.map_some, Option.map_none, List.getElem?_cons_zero, List.getElem?_cons_succ, ne_eq, not_false_eq_true, List.nil_append, List.append_nil, List.cons_append, List.contains_cons, List.contains_nil, Nat.reduceBEq, Bool.or_false, Bool.false_or, Bool.true_or, Bool.or_true], by simp only [go_sem, reduceIte, Nat.reduceEqDiff, Nat.reduceAdd, Nat.reduceMul, Nat.reduceSub, Int.reduceLE, Int.reduceLT, Int.reduceNe, Int.reduceToNat, Int.reducePow, Int.reduceAdd, Int.reduceMul, reduceCtorEq, true_and, and_true, cond_true, cond_false, List.map_cons, List.map_nil, Option.map_some, Option.map_none, List.getElem?_cons_zero, List.getElem?_cons_succ, ne_eq, not_false_eq_true, List.nil_append, List.append_nil, List.cons_append, List.contains_cons, List.contains_nil, Nat.reduceBEq, Bool.or_false, Bool.false_or, Bool.true_or, Bool.or_true], by simp only [go_sem, reduceIte, Nat.reduceEqDiff, Nat.reduceAdd, Nat.reduceMul, Nat.reduceSub, Int.reduceLE, Int.reduceLT, Int.reduceNe, Int.reduceToNat, Int.reducePow, Int.reduceAdd, Int.reduceMul, reduceCtorEq, true_and, and_true, cond_true, cond_false, List.map_cons, List.map_nil, Option.map_some, Option.map_none, List.getElem?_cons_zero, List.getElem?_cons_succ, ne_eq, not_false_eq_true, List.nil_append, List.append_nil, List.cons_append, List.contains_cons, List.contains_nil, Nat.reduceBEq, Bool.or_false, Bool.false_or, Bool.true_or, Bool.or_true]; rfl, hr3, hk3, rfl⟩
  rintro k fr h1 ⟨i, at_, rfl, hi, hf5, hf17, hf18, hf19, hr1, hk1, hF⟩
  simp only [go_sem, reduceIte, Nat.reduceEqDiff, Nat.reduceAdd, Nat.reduceMul, Nat.reduceSub, Int.reduceLE, Int.reduceLT, Int.reduceNe, Int.reduceToNat, Int.reducePow, Int.reduceAdd, Int.reduceMul, reduceCtorEq, true_and, and_true, cond_true, cond_false, List.map_cons, List.map_nil, Option.map_some, Option.map_none, List.getElem?_cons_zero, List.getElem?_cons_succ, ne_eq, not_false_eq_true, List.nil_append, List.append_nil, List.cons_append, List.contains_cons, List.contains_nil, Nat.reduceBEq, Bool.or_false, Bool.false_or, Bool.true_or, Bool.or_true, hf5, hf17, hf18, hf19]
  refine condK_intro (fun hc => ?_) (fun hc => ?_)
  case refine_2 =>
    have hc : i = l.length := by have := of_decide_eq_false hc; omega
    subst hc
    obtain ⟨_, e4, rfl⟩ := end_con hr1 (by omega) n (by omega)
    simp only [go_sem, reduceIte, Nat.reduceEqDiff, Nat.reduceAdd, Nat.reduceMul, Nat.reduceSub, Int.reduceLE, Int.reduceLT, Int.reduceNe, Int.reduceToNat, Int.reducePow, Int.reduceAdd, Int.reduceMul, reduceCtorEq, true_and, and_true, cond_true, cond_false, List.map_cons, List.map_nil, Option.map_some, Option.map_none, List.getElem?_cons_zero, List.getElem?_cons_succ, ne_eq, not_false_eq_true, List.nil_append, List.append_nil, List.cons_append, List.contains_cons, List.contains_nil, Nat.reduceBEq, Bool.or_false, Bool.false_or, Bool.true_or, Bool.or_true, hf5, hf17, hf18, hf19, e4, aResults_two (F := Try.f19) rfl]
    rw [hF, List.drop_length]
    refine ⟨_, ?_, hk1⟩
    simp only [readsF, List.length_drop, if_true]
    split <;> rfl
  case refine_1 =>
  have hc : i < l.length := by have := of_decide_eq_true hc; omega
  have hxi : l[i]? = some l[i] := List.getElem?_eq_getElem hc
  have hdrop : l.drop i = l[i] :: l.drop (i + 1) := List.drop_eq_getElem_cons hc
  generalize hxd : l[i] = x at *
  obtain ⟨p, rv, e4, e5, hrv, hrva, hrvi, hkd, hxn⟩ := (hl.keep hk1 (by simp)).load hxi
  have hB := hl.1
  have hst : ∀ a b c : AV, storeO E0 27 0 (.agg [.int .u8 (x.kind : Nat), .int .u64 (x.n : Nat), rv]) (.cells [a, b, c] 27 .own) = some (.cells [.int .u8 (x.kind : Nat), .int .u64 (x.n : Nat), rv] 27 .own) := fun a b c => store27 rfl rfl hrva
  obtain ⟨H, hH⟩ : ∃ H, H = (h1.push (.cells [.int .u8 0, .int .u64 0, .nils] 27 .own)).set h1.next (.cells [.int .u8 (x.kind : Nat), .int .u64 (x.n : Nat), rv] 27 .own) := ⟨_, rfl⟩
  have hpush : (h1.push (.cells [.int .u8 0, .int .u64 0, .nils] 27 .own)).get h1.next = .cells [.int .u8 0, .int .u64 0, .nils] 27 .own := get_push_new rfl
  have hHk : Keep h1 H [] := by rw [hH]; exact keep_set (Keep.push h1 _) (Nat.le_refl _)
  have hHn : H.next = h1.next + 1 := by rw [hH]; rfl
  have hHg : H.get h1.next = .cells [.int .u8 (x.kind : Nat), .int .u64 (x.n : Nat), rv] 27 .own := by rw [hH]; exact get_set_same
  have hrH : RD H ri bv bs at_ 0 := hr1.keep hHk (by simp) (by simp)
  have hrvH : BS H rv x.raw := hrv.keep hHk (by simp)
  have hlenrv : qBuiltin E0 H .len [rv] [24] = some (.int .i64 (x.raw.length : Nat)) := len_bytes byte24 hrvH
  obtain ⟨v8, e8, hv8, hv8i⟩ := slice_first hrvH (k := min x.raw.length 12) (by omega)
  rw [take_min] at hv8
  have hv8B : ∀ j ∈ ids v8, j < B := fun j hj => hrvi j (hv8i j hj)
  have hne : h1.next ≠ ri := by have := hr1.lt; omega
  have hr1lt := hr1.lt
  have hk1n := hk1.next
  simp only [go_sem, reduceIte, Nat.reduceEqDiff, Nat.reduceAdd, Nat.reduceMul, Nat.reduceSub, Int.reduceLE, Int.reduceLT, Int.reduceNe, Int.reduceToNat, Int.reducePow, Int.reduceAdd, Int.reduceMul, reduceCtorEq, true_and, and_true, cond_true, cond_false, List.map_cons, List.map_nil, Option.map_some, Option.map_none, List.getElem?_cons_zero, List.getElem?_cons_succ, ne_eq, not_false_eq_true, List.nil_append, List.append_nil, List.cons_append, List.contains_cons, List.contains_nil, Nat.reduceBEq, Bool.or_false, Bool.false_or, Bool.true_or, Bool.or_true, hf5, hf17, hf18, hf19, e4, e5, hpush, hst, ← hH, hHg, hlenrv, min12, e8, tmod8]
  refine condK_mono (Q := BrO ri bv bs at_ H (.ptr ri 0) lv (.int .i64 (l.length : Nat)) (.int .i64 (i : Nat)) (decF x (bs.drop at_))) ?_ ?_
  · clear hst hF hdrop
    have h8 : x.kind % 8 = 0 ∨ x.kind % 8 = 1 ∨ x.kind % 8 = 2 ∨ x.kind % 8 = 3 ∨ x.kind % 8 = 4 ∨ x.kind % 8 = 5 ∨ x.kind % 8 = 6 ∨ x.kind % 8 = 7 := by omega
    have hcell : ∀ h' : AH, Keep H h' [ri] → h'.get h1.next = .cells [.int .u8 (x.kind : Nat), .int .u64 (x.n : Nat), rv] 27 .own := fun h' k => by
      rw [k.get _ (by omega) (by simpa using hne)]; exact hHg
    have hv8k : ∀ h' : AH, Keep H h' [ri] → BS h' v8 (x.raw.take 12) := fun h' k => hv8.keep k (fun j hj hx => by have := hv8B j hj; simp at hx; omega)
    rcases h8 with hk | hk | hk | hk | hk | hk | hk | hk
    · have hdec : decF x (bs.drop at_) = mapD (fun v => v == x.n % 256) (fixF 1 (bs.drop at_)) := by simp [decF, hk]
      rw [hdec]
      clear hdec
      have d0 : (((x.kind % 8 : Nat) : Int) == 0) = true := by rw [hk]; rfl
      have d1 : (((x.kind % 8 : Nat) : Int) == 1) = false := by rw [hk]; rfl
      have d2 : (((x.kind % 8 : Nat) : Int) == 2) = false := by rw [hk]; rfl
      have d3 : (((x.kind % 8 : Nat) : Int) == 3) = false := by rw [hk]; rfl
      have d4 : (((x.kind % 8 : Nat) : Int) == 4) = false := by rw [hk]; rfl
      have d5 : (((x.kind % 8 : Nat) : Int) == 5) = false := by rw [hk]; rfl
      have d6 : (((x.kind % 8 : Nat) : Int) == 6) = false := by rw [hk]; rfl
      obtain ⟨out, e1, ho⟩ := take8_con hrH (by omega) n (by omega)
      cases hF : fixF 1 (bs.drop at_) with
      | bad e =>
        rw [hF] at ho
        obtain ⟨h3, rfl, hr3, hk3⟩ := ho
        have hp3 := hcell h3 hk3
        simp only [go_sem, reduceIte, Nat.reduceEqDiff, Nat.reduceAdd, Nat.reduceMul, Nat.reduceSub, Int.reduceLE, Int.reduceLT, Int.reduceNe, Int.reduceToNat, Int.reducePow, Int.reduceAdd, Int.reduceMul, reduceCtorEq, true_and, and_true, cond_true, cond_false, List.map_cons, List.map_nil, Option.map_some, Option.map_none, List.getElem?_cons_zero, List.getElem?_cons_succ, ne_eq, not_false_eq_true, List.nil_append, List.append_nil, List.cons_append, List.contains_cons, List.contains_nil, Nat.reduceBEq, Bool.or_false, Bool.false_or, Bool.true_or, Bool.or_true, hf5, hf17, hf18, hf19, hHg, d0, d1, d2, d3, d4, d5, d6, e1, hp3, w_u8, beq_nat]
        exact ⟨_, _, rfl, by simp only [go_sem, reduceIte, Nat.reduceEqDiff, Nat.reduceAdd, Nat.reduceMul, Nat.reduceSub, Int.reduceLE, Int.reduceLT, Int.reduceNe, Int.reduceToNat, Int.reducePow, Int.reduceAdd, Int.reduceMul, reduceCtorEq, true_and, and_true, cond_true, cond_false, List.map_cons, List.map_nil, Option.map_some, Option.map_none, List.getElem?_cons_zero, List.getElem?_cons_succ, ne_eq, not_false_eq_true, List.nil_append, List.append_nil, List.cons_append, List.contains_cons, List.contains_nil, Nat.reduceBEq, Bool.or_false, Bool.false_or, Bool.true_or, Bool.or_true, hf5], by simp only [go_sem, reduceIte, Nat.reduceEqDiff, Nat.reduceAdd, Nat.reduceMul, Nat.reduceSub, Int.reduceLE, Int.reduceLT, Int.reduceNe, Int.reduceToNat, Int.reducePow, Int.reduceAdd, Int.reduceMul, reduceCtorEq, true_and, and_true, cond_true, cond_false, List.map_cons, List.map_nil, Option.map_some, Option.map_none, List.getElem?_cons_zero, List.getElem?_cons_succ, ne_eq, not_false_eq_true, List.nil_append, List.append_nil, List.cons_append, List.contains_cons, List.contains_nil, Nat.reduceBEq, Bool.or_false, Bool.false_or, Bool.true_or, Bool.or_true, hf17], by simp only [go_sem, reduceIte, Nat.reduceEqDiff, Nat.reduceAdd, Nat.reduceMul, Nat.reduceSub, Int.reduceLE, Int.reduceLT, Int.reduceNe, Int.reduceToNat, Int.reducePow, Int.reduceAdd, Int.reduceMul, reduceCtorEq, true_and, and_true, cond_true, cond_false, List.map_cons, List.map_nil, Option.map_some, Option.map_none, List.getElem?_cons_zero, List.getElem?_cons_succ, ne_eq, not_false_eq_true, List.nil_append, List.append_nil, List.cons_append, List.contains_cons, List.contains_nil, Nat.reduceBEq, Bool.or_false, Bool.false_or, Bool.true_or, Bool.or_true, hf18], by simp only [go_sem, reduceIte, Nat.reduceEqDiff, Nat.reduceAdd, Nat.reduceMul, Nat.reduceSub, Int.reduceLE, Int.reduceLT, Int.reduceNe, Int.reduceToNat, Int.reducePow, Int.reduceAdd, Int.reduceMul, reduceCtorEq, true_and, and_true, cond_true, cond_false, List.map_cons, List.map_nil, Option.map_some, Option.map_none, List.getElem?_cons_zero, List.getElem?_cons_succ, ne_eq, not_false_eq_true, List.nil_append, List.append_nil, List.cons_append, List.contains_cons, List.contains_nil, Nat.reduceBEq, Bool.or_false, Bool.false_or, Bool.true_or, Bool.or_true, hf19], hk3, hr3⟩
      | ok v k' =>
        rw [hF] at ho
        obtain ⟨_, h3, rfl, hr3, hk3, rfl⟩ := ho
        have hp3 := hcell h3 hk3
        simp only [go_sem, reduceIte, Nat.reduceEqDiff, Nat.reduceAdd, Nat.reduceMul, Nat.reduceSub, Int.reduceLE, Int.reduceLT, Int.reduceNe, Int.reduceToNat, Int.reducePow, Int.reduceAdd, Int.reduceMul, reduceCtorEq, true_and, and_true, cond_true, cond_false, List.map_cons, List.map_nil, Option.map_some, Option.map_none, List.getElem?_cons_zero, List.getElem?_cons_succ, ne_eq, not_false_eq_true, List.nil_append, List.append_nil, List.cons_append, List.contains_cons, List.contains_nil, Nat.reduceBEq, Bool.or_false, Bool.false_or, Bool.true_or, Bool.or_true, hf5, hf17, hf18, hf19, hHg, d0, d1, d2, d3, d4, d5, d6, e1, hp3, w_u8, beq_nat]
        exact ⟨_, _, rfl, by simp only [go_sem, reduceIte, Nat.reduceEqDiff, Nat.reduceAdd, Nat.reduceMul, Nat.reduceSub, Int.reduceLE, Int.reduceLT, Int.reduceNe, Int.reduceToNat, Int.reducePow, Int.reduceAdd, Int.reduceMul, reduceCtorEq, true_and, and_true, cond_true, cond_false, List.map_cons, List.map_nil, Option.map_some, Option.map_none, List.getElem?_cons_zero, List.getElem?_cons_succ, ne_eq, not_false_eq_true, List.nil_append, List.append_nil, List.cons_append, List.contains_cons, List.contains_nil, Nat.reduceBEq, Bool.or_false, Bool.false_or, Bool.true_or, Bool.or_true, hf5], by simp only [go_sem, reduceIte, Nat.reduceEqDiff, Nat.reduceAdd, Nat.reduceMul, Nat.reduceSub, Int.reduceLE, Int.reduceLT, Int.reduceNe, Int.reduceToNat, Int.reducePow, Int.reduceAdd, Int.reduceMul, reduceCtorEq, true_and, and_true, cond_true, cond_false, List.map_cons, List.map_nil, Option.map_some, Option.map_none, List.getElem?_cons_zero, List.getElem?_cons_succ, ne_eq, not_false_eq_true, List.nil_append, List.append_nil, List.cons_append, List.contains_cons, List.contains_nil, Nat.reduceBEq, Bool.or_false, Bool.false_or, Bool.true_or, Bool.or_true, hf17], by simp only [go_sem, reduceIte, Nat.reduceEqDiff, Nat.reduceAdd, Nat.reduceMul, Nat.reduceSub, Int.reduceLE, Int.reduceLT, Int.reduceNe, Int.reduceToNat, Int.reducePow, Int.reduceAdd, Int.reduceMul, reduceCtorEq, true_and, and_true, cond_true, cond_false, List.map_cons, List.map_nil, Option.map_some, Option.map_none, List.getElem?_cons_zero, List.getElem?_cons_succ, ne_eq, not_false_eq_true, List.nil_append, List.append_nil, List.cons_append, List.contains_cons, List.contains_nil, Nat.reduceBEq, Bool.or_false, Bool.false_or, Bool.true_or, Bool.or_true, hf18], by simp only [go_sem, reduceIte, Nat.reduceEqDiff, Nat.reduceAdd, Nat.reduceMul, Nat.reduceSub, Int.reduceLE, Int.reduceLT, Int.reduceNe, Int.reduceToNat, Int.reducePow, Int.reduceAdd, Int.reduceMul, reduceCtorEq, true_and, and_true, cond_true, cond_false, List.map_cons, List.map_nil, Option.map_some, Option.map_none, List.getElem?_cons_zero, List.getElem?_cons_succ, ne_eq, not_false_eq_true, List.nil_append, List.append_nil, List.cons_append, List.contains_cons, List.contains_nil, Nat.reduceBEq, Bool.or_false, Bool.false_or, Bool.true_or, Bool.or_true, hf19], hk3, by simp only [go_sem, reduceIte, Nat.reduceEqDiff, Nat.reduceAdd, Nat.reduceMul, Nat.reduceSub, Int.reduceLE, Int.reduceLT, Int.reduceNe, Int.reduceToNat, Int.reducePow, Int.reduceAdd, Int.reduceMul, reduceCtorEq, true_and, and_true, cond_true, cond_false, List.map_cons, List.map_nil, Option.map_some, Option.map_none, List.getElem?_cons_zero, List.getElem?_cons_succ, ne_eq, not_false_eq_true, List.nil_append, List.append_nil, List.cons_append, List.contains_cons, List.contains_nil, Nat.reduceBEq, Bool.or_false, Bool.false_or, Bool.true_or, Bool.or_true], hr3⟩
    · have hdec : decF x (bs.drop at_) = mapD (fun v => v == x.n % 65536) (fixF 2 (bs.drop at_)) := by simp [decF, hk]
      rw [hdec]
      clear hdec
      have d0 : (((x.kind % 8 : Nat) : Int) == 0) = false := by rw [hk]; rfl
      have d1 : (((x.kind % 8 : Nat) : Int) == 1) = true := by rw [hk]; rfl
      have d2 : (((x.kind % 8 : Nat) : Int) == 2) = false := by rw [hk]; rfl
      have d3 : (((x.kind % 8 : Nat) : Int) == 3) = false := by rw [hk]; rfl
      have d4 : (((x.kind % 8 : Nat) : Int) == 4) = false := by rw [hk]; rfl
      have d5 : (((x.kind % 8 : Nat) : Int) == 5) = false := by rw [hk]; rfl
      have d6 : (((x.kind % 8 : Nat) : Int) == 6) = false := by rw [hk]; rfl
      obtain ⟨out, e1, ho⟩ := take16_con hrH (by omega) n (by omega)
      cases hF : fixF 2 (bs.drop at_) with
      | bad e =>
        rw [hF] at ho
        obtain ⟨h3, rfl, hr3, hk3⟩ := ho
        have hp3 := hcell h3 hk3
        simp only [go_sem, reduceIte, Nat.reduceEqDiff, Nat.reduceAdd, Nat.reduceMul, Nat.reduceSub, Int.reduceLE, Int.reduceLT, Int.reduceNe, Int.reduceToNat, Int.reducePow, Int.reduceAdd, Int.reduceMul, reduceCtorEq, true_and, and_true, cond_true, cond_false, List.map_cons, List.map_nil, Option.map_some, Option.map_none, List.getElem?_cons_zero, List.getElem?_cons_succ, ne_eq, not_false_eq_true, List.nil_append, List.append_nil, List.cons_append, List.contains_cons, List.contains_nil, Nat.reduceBEq, Bool.or_false, Bool.false_or, Bool.true_or, Bool.or_true, hf5, hf17, hf18, hf19, hHg, d0, d1, d2, d3, d4, d5, d6, e1, hp3, w_u16, beq_nat]
        exact ⟨_, _, rfl, by simp only [go_sem, reduceIte, Nat.reduceEqDiff, Nat.reduceAdd, Nat.reduceMul, Nat.reduceSub, Int.reduceLE, Int.reduceLT, Int.reduceNe, Int.reduceToNat, Int.reducePow, Int.reduceAdd, Int.reduceMul, reduceCtorEq, true_and, and_true, cond_true, cond_false, List.map_cons, List.map_nil, Option.map_some, Option.map_none, List.getElem?_cons_zero, List.getElem?_cons_succ, ne_eq, not_false_eq_true, List.nil_append, List.append_nil, List.cons_append, List.contains_cons, List.contains_nil, Nat.reduceBEq, Bool.or_false, Bool.false_or, Bool.true_or, Bool.or_true, hf5], by simp only [go_sem, reduceIte, Nat.reduceEqDiff, Nat.reduceAdd, Nat.reduceMul, Nat.reduceSub, Int.reduceLE, Int.reduceLT, Int.reduceNe, Int.reduceToNat, Int.reducePow, Int.reduceAdd, Int.reduceMul, reduceCtorEq, true_and, and_true, cond_true, cond_false, List.map_cons, List.map_nil, Option.map_some, Option.map_none, List.getElem?_cons_zero, List.getElem?_cons_succ, ne_eq, not_false_eq_true, List.nil_append, List.append_nil, List.cons_append, List.contains_cons, List.contains_nil, Nat.reduceBEq, Bool.or_false, Bool.false_or, Bool.true_or, Bool.or_true, hf17], by simp only [go_sem, reduceIte, Nat.reduceEqDiff, Nat.reduceAdd, Nat.reduceMul, Nat.reduceSub, Int.reduceLE, Int.reduceLT, Int.reduceNe, Int.reduceToNat, Int.reducePow, Int.reduceAdd, Int.reduceMul, reduceCtorEq, true_and, and_true, cond_true, cond_false, List.map_cons, List.map_nil, Option.map_some, Option.map_none, List.getElem?_cons_zero, List.getElem?_cons_succ, ne_eq, not_false_eq_true, List.nil_append, List.append_nil, List.cons_append, List.contains_cons, List.contains_nil, Nat.reduceBEq, Bool.or_false, Bool.false_or, Bool.true_or, Bool.or_true, hf18], by simp only [go_sem, reduceIte, Nat.reduceEqDiff, Nat.reduceAdd, Nat.reduceMul, Nat.reduceSub, Int.reduceLE, Int.reduceLT, Int.reduceNe, Int.reduceToNat, Int.reducePow, Int.reduceAdd, Int.reduceMul, reduceCtorEq, true_and, and_true, cond_true, cond_false, List.map_cons, List.map_nil, Option.map_some, Option.map_none, List.getElem?_cons_zero, List.getElem?_cons_succ, ne_eq, not_false_eq_true, List.nil_append, List.append_nil, List.cons_append, List.contains_cons, List.contains_nil, Nat.reduceBEq, Bool.or_false, Bool.false_or, Bool.true_or, Bool.or_true, hf19], hk3, hr3⟩
      | ok v k' =>
        rw [hF] at ho
        obtain ⟨_, h3, rfl, hr3, hk3, rfl⟩ := ho
        have hp3 := hcell h3 hk3
        simp only [go_sem, reduceIte, Nat.reduceEqDiff, Nat.reduceAdd, Nat.reduceMul, Nat.reduceSub, Int.reduceLE, Int.reduceLT, Int.reduceNe, Int.reduceToNat, Int.reducePow, Int.reduceAdd, Int.reduceMul, reduceCtorEq, true_and, and_true, cond_true, cond_false, List.map_cons, List.map_nil, Option.map_some, Option.map_none, List.getElem?_cons_zero, List.getElem?_cons_succ, ne_eq, not_false_eq_true, List.nil_append, List.append_nil, List.cons_append, List.contains_cons, List.contains_nil, Nat.reduceBEq, Bool.or_false, Bool.false_or, Bool.true_or, Bool.or_true, hf5, hf17, hf18, hf19, hHg, d0, d1, d2, d3, d4, d5, d6, e1, hp3, w_u16, beq_nat]
        exact ⟨_, _, rfl, by simp only [go_sem, reduceIte, Nat.reduceEqDiff, Nat.reduceAdd, Nat.reduceMul, Nat.reduceSub, Int.reduceLE, Int.reduceLT, Int.reduceNe, Int.reduceToNat, Int.reducePow, Int.reduceAdd, Int.reduceMul, reduceCtorEq, true_and, and_true, cond_true, cond_false, List.map_cons, List.map_nil, Option.map_some, Option.map_none, List.getElem?_cons_zero, List.getElem?_cons_succ, ne_eq, not_false_eq_true, List.nil_append, List.append_nil, List.cons_append, List.contains_cons, List.contains_nil, Nat.reduceBEq, Bool.or_false, Bool.false_or, Bool.true_or, Bool.or_true, hf5], by simp only [go_sem, reduceIte, Nat.reduceEqDiff, Nat.reduceAdd, Nat.reduceMul, Nat.reduceSub, Int.reduceLE, Int.reduceLT, Int.reduceNe, Int.reduceToNat, Int.reducePow, Int.reduceAdd, Int.reduceMul, reduceCtorEq, true_and, and_true, cond_true, cond_false, List.map_cons, List.map_nil, Option.map_some, Option.map_none, List.getElem?_cons_zero, List.getElem?_cons_succ, ne_eq, not_false_eq_true, List.nil_append, List.append_nil, List.cons_append, List.contains_cons, List.contains_nil, Nat.reduceBEq, Bool.or_false, Bool.false_or, Bool.true_or, Bool.or_true, hf17], by simp only [go_sem, reduceIte, Nat.reduceEqDiff, Nat.reduceAdd, Nat.reduceMul, Nat.reduceSub, Int.reduceLE, Int.reduceLT, Int.reduceNe, Int.reduceToNat, Int.reducePow, Int.reduceAdd, Int.reduceMul, reduceCtorEq, true_and, and_true, cond_true, cond_false, List.map_cons, List.map_nil, Option.map_some, Option.map_none, List.getElem?_cons_zero, List.getElem?_cons_succ, ne_eq, not_false_eq_true, List.nil_append, List.append_nil, List.cons_append, List.contains_cons, List.contains_nil, Nat.reduceBEq, Bool.or_false, Bool.false_or, Bool.true_or, Bool.or_true, hf18], by simp only [go_sem, reduceIte, Nat.reduceEqDiff, Nat.reduceAdd, Nat.reduceMul, Nat.reduceSub, Int.reduceLE, Int.reduceLT, Int.reduceNe, Int.reduceToNat, Int.reducePow, Int.reduceAdd, Int.reduceMul, reduceCtorEq, true_and, and_true, cond_true, cond_false, List.map_cons, List.map_nil, Option.map_some, Option.map_none, List.getElem?_cons_zero, List.getElem?_cons_succ, ne_eq, not_false_eq_true, List.nil_append, List.append_nil, List.cons_append, List.contains_cons, List.contains_nil, Nat.reduceBEq, Bool.or_false, Bool.false_or, Bool.true_or, Bool.or_true, hf19], hk3, by simp only [go_sem, reduceIte, Nat.reduceEqDiff, Nat.reduceAdd, Nat.reduceMul, Nat.reduceSub, Int.reduceLE, Int.reduceLT, Int.reduceNe, Int.reduceToNat, Int.reducePow, Int.reduceAdd, Int.reduceMul, reduceCtorEq, true_and, and_true, cond_true, cond_false, List.map_cons, List.map_nil, Option.map_some, Option.map_none, List.getElem?_cons_zero, List.getElem?_cons_succ, ne_eq, not_false_eq_true, List.nil_append, List.append_nil, List.cons_append, List.contains_cons, List.contains_nil, Nat.reduceBEq, Bool.or_false, Bool.false_or, Bool.true_or, Bool.or_true], hr3⟩
    · have hdec : decF x (bs.drop at_) = mapD (fun v => v == x.n % 4294967296) (fixF 4 (bs.drop at_)) := by simp [decF, hk]
      rw [hdec]
      clear hdec
      have d0 : (((x.kind % 8 : Nat) : Int) == 0) = false := by rw [hk]; rfl
      have d1 : (((x.kind % 8 : Nat) : Int) == 1) = false := by rw [hk]; rfl
      have d2 : (((x.kind % 8 : Nat) : Int) == 2) = true := by rw [hk]; rfl
      have d3 : (((x.kind % 8 : Nat) : Int) == 3) = false := by rw [hk]; rfl
      have d4 : (((x.kind % 8 : Nat) : Int) == 4) = false := by rw [hk]; rfl
      have d5 : (((x.kind % 8 : Nat) : Int) == 5) = false := by rw [hk]; rfl
      have d6 : (((x.kind % 8 : Nat) : Int) == 6) = false := by rw [hk]; rfl
      obtain ⟨out, e1, ho⟩ := take32_con hrH (by omega) n (by omega)
      cases hF : fixF 4 (bs.drop at_) with
      | bad e =>
        rw [hF] at ho
        obtain ⟨h3, rfl, hr3, hk3⟩ := ho
        have hp3 := hcell h3 hk3
        simp only [go_sem, reduceIte, Nat.reduceEqDiff, Nat.reduceAdd, Nat.reduceMul, Nat.reduceSub, Int.reduceLE, Int.reduceLT, Int.reduceNe, Int.reduceToNat, Int.reducePow, Int.reduceAdd, Int.reduceMul, reduceCtorEq, true_and, and_true, cond_true, cond_false, List.map_cons, List.map_nil, Option.map_some, Option.map_none, List.getElem?_cons_zero, List.getElem?_cons_succ, ne_eq, not_false_eq_true, List.nil_append, List.append_nil, List.cons_append, List.contains_cons, List.contains_nil, Nat.reduceBEq, Bool.or_false, Bool.false_or, Bool.true_or, Bool.or_true, hf5, hf17, hf18, hf19, hHg, d0, d1, d2, d3, d4, d5, d6, e1, hp3, w_u32, beq_nat]
        exact ⟨_, _, rfl, by simp only [go_sem, reduceIte, Nat.reduceEqDiff, Nat.reduceAdd, Nat.reduceMul, Nat.reduceSub, Int.reduceLE, Int.reduceLT, Int.reduceNe, Int.reduceToNat, Int.reducePow, Int.reduceAdd, Int.reduceMul, reduceCtorEq, true_and, and_true, cond_true, cond_false, List.map_cons, List.map_nil, Option.map_some, Option.map_none, List.getElem?_cons_zero, List.getElem?_cons_succ, ne_eq, not_false_eq_true, List.nil_append, List.append_nil, List.cons_append, List.contains_cons, List.contains_nil, Nat.reduceBEq, Bool.or_false, Bool.false_or, Bool.true_or, Bool.or_true, hf5], by simp only [go_sem, reduceIte, Nat.reduceEqDiff, Nat.reduceAdd, Nat.reduceMul, Nat.reduceSub, Int.reduceLE, Int.reduceLT, Int.reduceNe, Int.reduceToNat, Int.reducePow, Int.reduceAdd, Int.reduceMul, reduceCtorEq, true_and, and_true, cond_true, cond_false, List.map_cons, List.map_nil, Option.map_some, Option.map_none, List.getElem?_cons_zero, List.getElem?_cons_succ, ne_eq, not_false_eq_true, List.nil_append, List.append_nil, List.cons_append, List.contains_cons, List.contains_nil, Nat.reduceBEq, Bool.or_false, Bool.false_or, Bool.true_or, Bool.or_true, hf17], by simp only [go_sem, reduceIte, Nat.reduceEqDiff, Nat.reduceAdd, Nat.reduceMul, Nat.reduceSub, Int.reduceLE, Int.reduceLT, Int.reduceNe, Int.reduceToNat, Int.reducePow, Int.reduceAdd, Int.reduceMul, reduceCtorEq, true_and, and_true, cond_true, cond_false, List.map_cons, List.map_nil, Option.map_some, Option.map_none, List.getElem?_cons_zero, List.getElem?_cons_succ, ne_eq, not_false_eq_true, List.nil_append, List.append_nil, List.cons_append, List.contains_cons, List.contains_nil, Nat.reduceBEq, Bool.or_false, Bool.false_or, Bool.true_or, Bool.or_true, hf18], by simp only [go_sem, reduceIte, Nat.reduceEqDiff, Nat.reduceAdd, Nat.reduceMul, Nat.reduceSub, Int.reduceLE, Int.reduceLT, Int.reduceNe, Int.reduceToNat, Int.reducePow, Int.reduceAdd, Int.reduceMul, reduceCtorEq, true_and, and_true, cond_true, cond_false, List.map_cons, List.map_nil, Option.map_some, Option.map_none, List.getElem?_cons_zero, List.getElem?_cons_succ, ne_eq, not_false_eq_true, List.nil_append, List.append_nil, List.cons_append, List.contains_cons, List.contains_nil, Nat.reduceBEq, Bool.or_false, Bool.false_or, Bool.true_or, Bool.or_true, hf19], hk3, hr3⟩
      | ok v k' =>
        rw [hF] at ho
        obtain ⟨_, h3, rfl, hr3, hk3, rfl⟩ := ho
        have hp3 := hcell h3 hk3
        simp only [go_sem, reduceIte, Nat.reduceEqDiff, Nat.reduceAdd, Nat.reduceMul, Nat.reduceSub, Int.reduceLE, Int.reduceLT, Int.reduceNe, Int.reduceToNat, Int.reducePow, Int.reduceAdd, Int.reduceMul, reduceCtorEq, true_and, and_true, cond_true, cond_false, List.map_cons, List.map_nil, Option.map_some, Option.map_none, List.getElem?_cons_zero, List.getElem?_cons_succ, ne_eq, not_false_eq_true, List.nil_append, List.append_nil, List.cons_append, List.contains_cons, List.contains_nil, Nat.reduceBEq, Bool.or_false, Bool.false_or, Bool.true_or, Bool.or_true, hf5, hf17, hf18, hf19, hHg, d0, d1, d2, d3, d4, d5, d6, e1, hp3, w_u32, beq_nat]
        exact ⟨_, _, rfl, by simp only [go_sem, reduceIte, Nat.reduceEqDiff, Nat.reduceAdd, Nat.reduceMul, Nat.reduceSub, Int.reduceLE, Int.reduceLT, Int.reduceNe, Int.reduceToNat, Int.reducePow, Int.reduceAdd, Int.reduceMul, reduceCtorEq, true_and, and_true, cond_true, cond_false, List.map_cons, List.map_nil, Option.map_some, Option.map_none, List.getElem?_cons_zero, List.getElem?_cons_succ, ne_eq, not_false_eq_true, List.nil_append, List.append_nil, List.cons_append, List.contains_cons, List.contains_nil, Nat.reduceBEq, Bool.or_false, Bool.false_or, Bool.true_or, Bool.or_true, hf5], by simp only [go_sem, reduceIte, Nat.reduceEqDiff, Nat.reduceAdd, Nat.reduceMul, Nat.reduceSub, Int.reduceLE, Int.reduceLT, Int.reduceNe, Int.reduceToNat, Int.reducePow, Int.reduceAdd, Int.reduceMul, reduceCtorEq, true_and, and_true, cond_true, cond_false, List.map_cons, List.map_nil, Option.map_some, Option.map_none, List.getElem?_cons_zero, List.getElem?_cons_succ, ne_eq, not_false_eq_true, List.nil_append, List.append_nil, List.cons_append, List.contains_cons, List.contains_nil, Nat.reduceBEq, Bool.or_false, Bool.false_or, Bool.true_or, Bool.or_true, hf17], by simp only [go_sem, reduceIte, Nat.reduceEqDiff, Nat.reduceAdd, Nat.reduceMul, Nat.reduceSub, Int.reduceLE, Int.reduceLT, Int.reduceNe, Int.reduceToNat, Int.reducePow, Int.reduceAdd, Int.reduceMul, reduceCtorEq, true_and, and_true, cond_true, cond_false, List.map_cons, List.map_nil, Option.map_some, Option.map_none, List.getElem?_cons_zero, List.getElem?_cons_succ, ne_eq, not_false_eq_true, List.nil_append, List.append_nil, List.cons_append, List.contains_cons, List.contains_nil, Nat.reduceBEq, Bool.or_false, Bool.false_or, Bool.true_or, Bool.or_true, hf18], by simp only [go_sem, reduceIte, Nat.reduceEqDiff, Nat.reduceAdd, Nat.reduceMul, Nat.reduceSub, Int.reduceLE, Int.reduceLT, Int.reduceNe, Int.reduceToNat, Int.reducePow, Int.reduceAdd, Int.reduceMul, reduceCtorEq, true_and, and_true, cond_true, cond_false, List.map_cons, List.map_nil, Option.map_some, Option.map_none, List.getElem?_cons_zero, List.getElem?_cons_succ, ne_eq, not_false_eq_true, List.nil_append, List.append_nil, List.cons_append, List.contains_cons, List.contains_nil, Nat.reduceBEq, Bool.or_false, Bool.false_or, Bool.true_or, Bool.or_true, hf19], hk3, by simp only [go_sem, reduceIte, Nat.reduceEqDiff, Nat.reduceAdd, Nat.reduceMul, Nat.reduceSub, Int.reduceLE, Int.reduceLT, Int.reduceNe, Int.reduceToNat, Int.reducePow, Int.reduceAdd, Int.reduceMul, reduceCtorEq, true_and, and_true, cond_true, cond_false, List.map_cons, List.map_nil, Option.map_some, Option.map_none, List.getElem?_cons_zero, List.getElem?_cons_succ, ne_eq, not_false_eq_true, List.nil_append, List.append_nil, List.cons_append, List.contains_cons, List.contains_nil, Nat.reduceBEq, Bool.or_false, Bool.false_or, Bool.true_or, Bool.or_true], hr3⟩
    · have hdec : decF x (bs.drop at_) = mapD (fun v => v == x.n) (fixF 8 (bs.drop at_)) := by simp [decF, hk]
      rw [hdec]
      clear hdec
      have d0 : (((x.kind % 8 : Nat) : Int) == 0) = false := by rw [hk]; rfl
      have d1 : (((x.kind % 8 : Nat) : Int) == 1) = false := by rw [hk]; rfl
      have d2 : (((x.kind % 8 : Nat) : Int) == 2) = false := by rw [hk]; rfl
      have d3 : (((x.kind % 8 : Nat) : Int) == 3) = true := by rw [hk]; rfl
      have d4 : (((x.kind % 8 : Nat) : Int) == 4) = false := by rw [hk]; rfl
      have d5 : (((x.kind % 8 : Nat) : Int) == 5) = false := by rw [hk]; rfl
      have d6 : (((x.kind % 8 : Nat) : Int) == 6) = false := by rw [hk]; rfl
      obtain ⟨out, e1, ho⟩ := take64_con hrH (by omega) n (by omega)
      cases hF : fixF 8 (bs.drop at_) with
      | bad e =>
        rw [hF] at ho
        obtain ⟨h3, rfl, hr3, hk3⟩ := ho
        have hp3 := hcell h3 hk3
        simp only [go_sem, reduceIte, Nat.reduceEqDiff, Nat.reduceAdd, Nat.reduceMul, Nat.reduceSub, Int.reduceLE, Int.reduceLT, Int.reduceNe, Int.reduceToNat, Int.reducePow, Int.reduceAdd, Int.reduceMul, reduceCtorEq, true_and, and_true, cond_true, cond_false, List.map_cons, List.map_nil, Option.map_some, Option.map_none, List.getElem?_cons_zero, List.getElem?_cons_succ, ne_eq, not_false_eq_true, List.nil_append, List.append_nil, List.cons_append, List.contains_cons, List.contains_nil, Nat.reduceBEq, Bool.or_false, Bool.false_or, Bool.true_or, Bool.or_true, hf5, hf17, hf18, hf19, hHg, d0, d1, d2, d3, d4, d5, d6, e1, hp3, beq_nat]
        exact ⟨_, _, rfl, by simp only [go_sem, reduceIte, Nat.reduceEqDiff, Nat.reduceAdd, Nat.reduceMul, Nat.reduceSub, Int.reduceLE, Int.reduceLT, Int.reduceNe, Int.reduceToNat, Int.reducePow, Int.reduceAdd, Int.reduceMul, reduceCtorEq, true_and, and_true, cond_true, cond_false, List.map_cons, List.map_nil, Option.map_some, Option.map_none, List.getElem?_cons_zero, List.getElem?_cons_succ, ne_eq, not_false_eq_true, List.nil_append, List.append_nil, List.cons_append, List.contains_cons, List.contains_nil, Nat.reduceBEq, Bool.or_false, Bool.false_or, Bool.true_or, Bool.or_true, hf5], by simp only [go_sem, reduceIte, Nat.reduceEqDiff, Nat.reduceAdd, Nat.reduceMul, Nat.reduceSub, Int.reduceLE, Int.reduceLT, Int.reduceNe, Int.reduceToNat, Int.reducePow, Int.reduceAdd, Int.reduceMul, reduceCtorEq, true_and, and_true, cond_true, cond_false, List.map_cons, List.map_nil, Option.map_some, Option.map_none, List.getElem?_cons_zero, List.getElem?_cons_succ, ne_eq, not_false_eq_true, List.nil_append, List.append_nil, List.cons_append, List.contains_cons, List.contains_nil, Nat.reduceBEq, Bool.or_false, Bool.false_or, Bool.true_or, Bool.or_true, hf17], by simp only [go_sem, reduceIte, Nat.reduceEqDiff, Nat.reduceAdd, Nat.reduceMul, Nat.reduceSub, Int.reduceLE, Int.reduceLT, Int.reduceNe, Int.reduceToNat, Int.reducePow, Int.reduceAdd, Int.reduceMul, reduceCtorEq, true_and, and_true, cond_true, cond_false, List.map_cons, List.map_nil, Option.map_some, Option.map_none, List.getElem?_cons_zero, List.getElem?_cons_succ, ne_eq, not_false_eq_true, List.nil_append, List.append_nil, List.cons_append, List.contains_cons, List.contains_nil, Nat.reduceBEq, Bool.or_false, Bool.false_or, Bool.true_or, Bool.or_true, hf18], by simp only [go_sem, reduceIte, Nat.reduceEqDiff, Nat.reduceAdd, Nat.reduceMul, Nat.reduceSub, Int.reduceLE, Int.reduceLT, Int.reduceNe, Int.reduceToNat, Int.reducePow, Int.reduceAdd, Int.reduceMul, reduceCtorEq, true_and, and_true, cond_true, cond_false, List.map_cons, List.map_nil, Option.map_some, Option.map_none, List.getElem?_cons_zero, List.getElem?_cons_succ, ne_eq, not_false_eq_true, List.nil_append, List.append_nil, List.cons_append, List.contains_cons, List.contains_nil, Nat.reduceBEq, Bool.or_false, Bool.false_or, Bool.true_or, Bool.or_true, hf19], hk3, hr3⟩
      | ok v k' =>
        rw [hF] at ho
        obtain ⟨_, h3, rfl, hr3, hk3, rfl⟩ := ho
        have hp3 := hcell h3 hk3
        simp only [go_sem, reduceIte, Nat.reduceEqDiff, Nat.reduceAdd, Nat.reduceMul, Nat.reduceSub, Int.reduceLE, Int.reduceLT, Int.reduceNe, Int.reduceToNat, Int.reducePow, Int.reduceAdd, Int.reduceMul, reduceCtorEq, true_and, and_true, cond_true, cond_false, List.map_cons, List.map_nil, Option.map_some, Option.map_none, List.getElem?_cons_zero, List.getElem?_cons_succ, ne_eq, not_false_eq_true, List.nil_append, List.append_nil, List.cons_append, List.contains_cons, List.contains_nil, Nat.reduceBEq, Bool.or_false, Bool.false_or, Bool.true_or, Bool.or_true, hf5, hf17, hf18, hf19, hHg, d0, d1, d2, d3, d4, d5, d6, e1, hp3, beq_nat]
        exact ⟨_, _, rfl, by simp only [go_sem, reduceIte, Nat.reduceEqDiff, Nat.reduceAdd, Nat.reduceMul, Nat.reduceSub, Int.reduceLE, Int.reduceLT, Int.reduceNe, Int.reduceToNat, Int.reducePow, Int.reduceAdd, Int.reduceMul, reduceCtorEq, true_and, and_true, cond_true, cond_false, List.map_cons, List.map_nil, Option.map_some, Option.map_none, List.getElem?_cons_zero, List.getElem?_cons_succ, ne_eq, not_false_eq_true, List.nil_append, List.append_nil, List.cons_append, List.contains_cons, List.contains_nil, Nat.reduceBEq, Bool.or_false, Bool.false_or, Bool.true_or, Bool.or_true, hf5], by simp only [go_sem, reduceIte, Nat.reduceEqDiff, Nat.reduceAdd, Nat.reduceMul, Nat.reduceSub, Int.reduceLE, Int.reduceLT, Int.reduceNe, Int.reduceToNat, Int.reducePow, Int.reduceAdd, Int.reduceMul, reduceCtorEq, true_and, and_true, cond_true, cond_false, List.map_cons, List.map_nil, Option.map_some, Option.map_none, List.getElem?_cons_zero, List.getElem?_cons_succ, ne_eq, not_false_eq_true, List.nil_append, List.append_nil, List.cons_append, List.contains_cons, List.contains_nil, Nat.reduceBEq, Bool.or_false, Bool.false_or, Bool.true_or, Bool.or_true, hf17], by simp only [go_sem, reduceIte, Nat.reduceEqDiff, Nat.reduceAdd, Nat.reduceMul, Nat.reduceSub, Int.reduceLE, Int.reduceLT, Int.reduceNe, Int.reduceToNat, Int.reducePow, Int.reduceAdd, Int.reduceMul, reduceCtorEq, true_and, and_true, cond_true, cond_false, List.map_cons, List.map_nil, Option.map_some, Option.map_none, List.getElem?_cons_zero, List.getElem?_cons_succ, ne_eq, not_false_eq_true, List.nil_append, List.append_nil, List.cons_append, List.contains_cons, List.contains_nil, Nat.reduceBEq, Bool.or_false, Bool.false_or, Bool.true_or, Bool.or_true, hf18], by simp only [go_sem, reduceIte, Nat.reduceEqDiff, Nat.reduceAdd, Nat.reduceMul, Nat.reduceSub, Int.reduceLE, Int.reduceLT, Int.reduceNe, Int.reduceToNat, Int.reducePow, Int.reduceAdd, Int.reduceMul, reduceCtorEq, true_and, and_true, cond_true, cond_false, List.map_cons, List.map_nil, Option.map_some, Option.map_none, List.getElem?_cons_zero, List.getElem?_cons_succ, ne_eq, not_false_eq_true, List.nil_append, List.append_nil, List.cons_append, List.contains_cons, List.contains_nil, Nat.reduceBEq, Bool.or_false, Bool.false_or, Bool.true_or, Bool.or_true, hf19], hk3, by simp only [go_sem, reduceIte, Nat.reduceEqDiff, Nat.reduceAdd, Nat.reduceMul, Nat.reduceSub, Int.reduceLE, Int.reduceLT, Int.reduceNe, Int.reduceToNat, Int.reducePow, Int.reduceAdd, Int.reduceMul, reduceCtorEq, true_and, and_true, cond_true, cond_false, List.map_cons, List.map_nil, Option.map_some, Option.map_none, List.getElem?_cons_zero, List.getElem?_cons_succ, ne_eq, not_false_eq_true, List.nil_append, List.append_nil, List.cons_append, List.contains_cons, List.contains_nil, Nat.reduceBEq, Bool.or_false, Bool.false_or, Bool.true_or, Bool.or_true], hr3⟩
    · have hdec : decF x (bs.drop at_) = mapD (fun v => v == x.n) (numF 0 0 (bs.drop at_)) := by simp [decF, hk]
      rw [hdec]
      clear hdec
      have d0 : (((x.kind % 8 : Nat) : Int) == 0) = false := by rw [hk]; rfl
      have d1 : (((x.kind % 8 : Nat) : Int) == 1) = false := by rw [hk]; rfl
      have d2 : (((x.kind % 8 : Nat) : Int) == 2) = false := by rw [hk]; rfl
      have d3 : (((x.kind % 8 : Nat) : Int) == 3) = false := by rw [hk]; rfl
      have d4 : (((x.kind % 8 : Nat) : Int) == 4) = true := by rw [hk]; rfl
      have d5 : (((x.kind % 8 : Nat) : Int) == 5) = false := by rw [hk]; rfl
      have d6 : (((x.kind % 8 : Nat) : Int) == 6) = false := by rw [hk]; rfl
      obtain ⟨out, e1, ho⟩ := uvarint_con hrH (by omega) n (by omega)
      cases hF : numF 0 0 (bs.drop at_) with
      | bad e =>
        rw [hF] at ho
        obtain ⟨h3, rfl, hr3, hk3⟩ := ho
        have hp3 := hcell h3 hk3
        simp only [go_sem, reduceIte, Nat.reduceEqDiff, Nat.reduceAdd, Nat.reduceMul, Nat.reduceSub, Int.reduceLE, Int.reduceLT, Int.reduceNe, Int.reduceToNat, Int.reducePow, Int.reduceAdd, Int.reduceMul, reduceCtorEq, true_and, and_true, cond_true, cond_false, List.map_cons, List.map_nil, Option.map_some, Option.map_none, List.getElem?_cons_zero, List.getElem?_cons_succ, ne_eq, not_false_eq_true, List.nil_append, List.append_nil, List.cons_append, List.contains_cons, List.contains_nil, Nat.reduceBEq, Bool.or_false, Bool.false_or, Bool.true_or, Bool.or_true, hf5, hf17, hf18, hf19, hHg, d0, d1, d2, d3, d4, d5, d6, e1, hp3, beq_nat]
        exact ⟨_, _, rfl, by simp only [go_sem, reduceIte, Nat.reduceEqDiff, Nat.reduceAdd, Nat.reduceMul, Nat.reduceSub, Int.reduceLE, Int.reduceLT, Int.reduceNe, Int.reduceToNat, Int.reducePow, Int.reduceAdd, Int.reduceMul, reduceCtorEq, true_and, and_true, cond_true, cond_false, List.map_cons, List.map_nil, Option.map_some, Option.map_none, List.getElem?_cons_zero, List.getElem?_cons_succ, ne_eq, not_false_eq_true, List.nil_append, List.append_nil, List.cons_append, List.contains_cons, List.contains_nil, Nat.reduceBEq, Bool.or_false, Bool.false_or, Bool.true_or, Bool.or_true, hf5], by simp only [go_sem, reduceIte, Nat.reduceEqDiff, Nat.reduceAdd, Nat.reduceMul, Nat.reduceSub, Int.reduceLE, Int.reduceLT, Int.reduceNe, Int.reduceToNat, Int.reducePow, Int.reduceAdd, Int.reduceMul, reduceCtorEq, true_and, and_true, cond_true, cond_false, List.map_cons, List.map_nil, Option.map_some, Option.map_none, List.getElem?_cons_zero, List.getElem?_cons_succ, ne_eq, not_false_eq_true, List.nil_append, List.append_nil, List.cons_append, List.contains_cons, List.contains_nil, Nat.reduceBEq, Bool.or_false, Bool.false_or, Bool.true_or, Bool.or_true, hf17], by simp only [go_sem, reduceIte, Nat.reduceEqDiff, Nat.reduceAdd, Nat.reduceMul, Nat.reduceSub, Int.reduceLE, Int.reduceLT, Int.reduceNe, Int.reduceToNat, Int.reducePow, Int.reduceAdd, Int.reduceMul, reduceCtorEq, true_and, and_true, cond_true, cond_false, List.map_cons, List.map_nil, Option.map_some, Option.map_none, List.getElem?_cons_zero, List.getElem?_cons_succ, ne_eq, not_false_eq_true, List.nil_append, List.append_nil, List.cons_append, List.contains_cons, List.contains_nil, Nat.reduceBEq, Bool.or_false, Bool.false_or, Bool.true_or, Bool.or_true, hf18], by simp only [go_sem, reduceIte, Nat.reduceEqDiff, Nat.reduceAdd, Nat.reduceMul, Nat.reduceSub, Int.reduceLE, Int.reduceLT, Int.reduceNe, Int.reduceToNat, Int.reducePow, Int.reduceAdd, Int.reduceMul, reduceCtorEq, true_and, and_true, cond_true, cond_false, List.map_cons, List.map_nil, Option.map_some, Option.map_none, List.getElem?_cons_zero, List.getElem?_cons_succ, ne_eq, not_false_eq_true, List.nil_append, List.append_nil, List.cons_append, List.contains_cons, List.contains_nil, Nat.reduceBEq, Bool.or_false, Bool.false_or, Bool.true_or, Bool.or_true, hf19], hk3, hr3⟩
      | ok v k' =>
        rw [hF] at ho
        obtain ⟨_, h3, rfl, hr3, hk3, rfl, hvx⟩ := ho
        have hp3 := hcell h3 hk3
        simp only [go_sem, reduceIte, Nat.reduceEqDiff, Nat.reduceAdd, Nat.reduceMul, Nat.reduceSub, Int.reduceLE, Int.reduceLT, Int.reduceNe, Int.reduceToNat, Int.reducePow, Int.reduceAdd, Int.reduceMul, reduceCtorEq, true_and, and_true, cond_true, cond_false, List.map_cons, List.map_nil, Option.map_some, Option.map_none, List.getElem?_cons_zero, List.getElem?_cons_succ, ne_eq, not_false_eq_true, List.nil_append, List.append_nil, List.cons_append, List.contains_cons, List.contains_nil, Nat.reduceBEq, Bool.or_false, Bool.false_or, Bool.true_or, Bool.or_true, hf5, hf17, hf18, hf19, hHg, d0, d1, d2, d3, d4, d5, d6, e1, hp3, beq_nat]
        exact ⟨_, _, rfl, by simp only [go_sem, reduceIte, Nat.reduceEqDiff, Nat.reduceAdd, Nat.reduceMul, Nat.reduceSub, Int.reduceLE, Int.reduceLT, Int.reduceNe, Int.reduceToNat, Int.reducePow, Int.reduceAdd, Int.reduceMul, reduceCtorEq, true_and, and_true, cond_true, cond_false, List.map_cons, List.map_nil, Option.map_some, Option.map_none, List.getElem?_cons_zero, List.getElem?_cons_succ, ne_eq, not_false_eq_true, List.nil_append, List.append_nil, List.cons_append, List.contains_cons, List.contains_nil, Nat.reduceBEq, Bool.or_false, Bool.false_or, Bool.true_or, Bool.or_true, hf5], by simp only [go_sem, reduceIte, Nat.reduceEqDiff, Nat.reduceAdd, Nat.reduceMul, Nat.reduceSub, Int.reduceLE, Int.reduceLT, Int.reduceNe, Int.reduceToNat, Int.reducePow, Int.reduceAdd, Int.reduceMul, reduceCtorEq, true_and, and_true, cond_true, cond_false, List.map_cons, List.map_nil, Option.map_some, Option.map_none, List.getElem?_cons_zero, List.getElem?_cons_succ, ne_eq, not_false_eq_true, List.nil_append, List.append_nil, List.cons_append, List.contains_cons, List.contains_nil, Nat.reduceBEq, Bool.or_false, Bool.false_or, Bool.true_or, Bool.or_true, hf17], by simp only [go_sem, reduceIte, Nat.reduceEqDiff, Nat.reduceAdd, Nat.reduceMul, Nat.reduceSub, Int.reduceLE, Int.reduceLT, Int.reduceNe, Int.reduceToNat, Int.reducePow, Int.reduceAdd, Int.reduceMul, reduceCtorEq, true_and, and_true, cond_true, cond_false, List.map_cons, List.map_nil, Option.map_some, Option.map_none, List.getElem?_cons_zero, List.getElem?_cons_succ, ne_eq, not_false_eq_true, List.nil_append, List.append_nil, List.cons_append, List.contains_cons, List.contains_nil, Nat.reduceBEq, Bool.or_false, Bool.false_or, Bool.true_or, Bool.or_true, hf18], by simp only [go_sem, reduceIte, Nat.reduceEqDiff, Nat.reduceAdd, Nat.reduceMul, Nat.reduceSub, Int.reduceLE, Int.reduceLT, Int.reduceNe, Int.reduceToNat, Int.reducePow, Int.reduceAdd, Int.reduceMul, reduceCtorEq, true_and, and_true, cond_true, cond_false, List.map_cons, List.map_nil, Option.map_some, Option.map_none, List.getElem?_cons_zero, List.getElem?_cons_succ, ne_eq, not_false_eq_true, List.nil_append, List.append_nil, List.cons_append, List.contains_cons, List.contains_nil, Nat.reduceBEq, Bool.or_false, Bool.false_or, Bool.true_or, Bool.or_true, hf19], hk3, by simp only [go_sem, reduceIte, Nat.reduceEqDiff, Nat.reduceAdd, Nat.reduceMul, Nat.reduceSub, Int.reduceLE, Int.reduceLT, Int.reduceNe, Int.reduceToNat, Int.reducePow, Int.reduceAdd, Int.reduceMul, reduceCtorEq, true_and, and_true, cond_true, cond_false, List.map_cons, List.map_nil, Option.map_some, Option.map_none, List.getElem?_cons_zero, List.getElem?_cons_succ, ne_eq, not_false_eq_true, List.nil_append, List.append_nil, List.cons_append, List.contains_cons, List.contains_nil, Nat.reduceBEq, Bool.or_false, Bool.false_or, Bool.true_or, Bool.or_true], hr3⟩
    · have hdec : decF x (bs.drop at_) = mapD (fun v => zagI v == IntKind.i64.wrap (x.n : Nat)) (numF 0 0 (bs.drop at_)) := by simp [decF, hk]
      rw [hdec]
      clear hdec
      have d0 : (((x.kind % 8 : Nat) : Int) == 0) = false := by rw [hk]; rfl
      have d1 : (((x.kind % 8 : Nat) : Int) == 1) = false := by rw [hk]; rfl
      have d2 : (((x.kind % 8 : Nat) : Int) == 2) = false := by rw [hk]; rfl
      have d3 : (((x.kind % 8 : Nat) : Int) == 3) = false := by rw [hk]; rfl
      have d4 : (((x.kind % 8 : Nat) : Int) == 4) = false := by rw [hk]; rfl
      have d5 : (((x.kind % 8 : Nat) : Int) == 5) = true := by rw [hk]; rfl
      have d6 : (((x.kind % 8 : Nat) : Int) == 6) = false := by rw [hk]; rfl
      obtain ⟨out, e1, ho⟩ := varint_con hrH (by omega) n (by omega)
      cases hF : numF 0 0 (bs.drop at_) with
      | bad e =>
        rw [hF] at ho
        obtain ⟨h3, rfl, hr3, hk3⟩ := ho
        have hp3 := hcell h3 hk3
        simp only [go_sem, reduceIte, Nat.reduceEqDiff, Nat.reduceAdd, Nat.reduceMul, Nat.reduceSub, Int.reduceLE, Int.reduceLT, Int.reduceNe, Int.reduceToNat, Int.reducePow, Int.reduceAdd, Int.reduceMul, reduceCtorEq, true_and, and_true, cond_true, cond_false, List.map_cons, List.map_nil, Option.map_some, Option.map_none, List.getElem?_cons_zero, List.getElem?_cons_succ, ne_eq, not_false_eq_true, List.nil_append, List.append_nil, List.cons_append, List.contains_cons, List.contains_nil, Nat.reduceBEq, Bool.or_false, Bool.false_or, Bool.true_or, Bool.or_true, hf5, hf17, hf18, hf19, hHg, d0, d1, d2, d3, d4, d5, d6, e1, hp3, beq_nat]
        exact ⟨_, _, rfl, by simp only [go_sem, reduceIte, Nat.reduceEqDiff, Nat.reduceAdd, Nat.reduceMul, Nat.reduceSub, Int.reduceLE, Int.reduceLT, Int.reduceNe, Int.reduceToNat, Int.reducePow, Int.reduceAdd, Int.reduceMul, reduceCtorEq, true_and, and_true, cond_true, cond_false, List.map_cons, List.map_nil, Option.map_some, Option.map_none, List.getElem?_cons_zero, List.getElem?_cons_succ, ne_eq, not_false_eq_true, List.nil_append, List.append_nil, List.cons_append, List.contains_cons, List.contains_nil, Nat.reduceBEq, Bool.or_false, Bool.false_or, Bool.true_or, Bool.or_true, hf5], by simp only [go_sem, reduceIte, Nat.reduceEqDiff, Nat.reduceAdd, Nat.reduceMul, Nat.reduceSub, Int.reduceLE, Int.reduceLT, Int.reduceNe, Int.reduceToNat, Int.reducePow, Int.reduceAdd, Int.reduceMul, reduceCtorEq, true_and, and_true, cond_true, cond_false, List.map_cons, List.map_nil, Option.map_some, Option.map_none, List.getElem?_cons_zero, List.getElem?_cons_succ, ne_eq, not_false_eq_true, List.nil_append, List.append_nil, List.cons_append, List.contains_cons, List.contains_nil, Nat.reduceBEq, Bool.or_false, Bool.false_or, Bool.true_or, Bool.or_true, hf17], by simp only [go_sem, reduceIte, Nat.reduceEqDiff, Nat.reduceAdd, Nat.reduceMul, Nat.reduceSub, Int.reduceLE, Int.reduceLT, Int.reduceNe, Int.reduceToNat, Int.reducePow, Int.reduceAdd, Int.reduceMul, reduceCtorEq, true_and, and_true, cond_true, cond_false, List.map_cons, List.map_nil, Option.map_some, Option.map_none, List.getElem?_cons_zero, List.getElem?_cons_succ, ne_eq, not_false_eq_true, List.nil_append, List.append_nil, List.cons_append, List.contains_cons, List.contains_nil, Nat.reduceBEq, Bool.or_false, Bool.false_or, Bool.true_or, Bool.or_true, hf18], by simp only [go_sem, reduceIte, Nat.reduceEqDiff, Nat.reduceAdd, Nat.reduceMul, Nat.reduceSub, Int.reduceLE, Int.reduceLT, Int.reduceNe, Int.reduceToNat, Int.reducePow, Int.reduceAdd, Int.reduceMul, reduceCtorEq, true_and, and_true, cond_true, cond_false, List.map_cons, List.map_nil, Option.map_some, Option.map_none, List.getElem?_cons_zero, List.getElem?_cons_succ, ne_eq, not_false_eq_true, List.nil_append, List.append_nil, List.cons_append, List.contains_cons, List.contains_nil, Nat.reduceBEq, Bool.or_false, Bool.false_or, Bool.true_or, Bool.or_true, hf19], hk3, hr3⟩
      | ok v k' =>
        rw [hF] at ho
        obtain ⟨_, h3, rfl, hr3, hk3, rfl, hvx⟩ := ho
        have hp3 := hcell h3 hk3
        simp only [go_sem, reduceIte, Nat.reduceEqDiff, Nat.reduceAdd, Nat.reduceMul, Nat.reduceSub, Int.reduceLE, Int.reduceLT, Int.reduceNe, Int.reduceToNat, Int.reducePow, Int.reduceAdd, Int.reduceMul, reduceCtorEq, true_and, and_true, cond_true, cond_false, List.map_cons, List.map_nil, Option.map_some, Option.map_none, List.getElem?_cons_zero, List.getElem?_cons_succ, ne_eq, not_false_eq_true, List.nil_append, List.append_nil, List.cons_append, List.contains_cons, List.contains_nil, Nat.reduceBEq, Bool.or_false, Bool.false_or, Bool.true_or, Bool.or_true, hf5, hf17, hf18, hf19, hHg, d0, d1, d2, d3, d4, d5, d6, e1, hp3, beq_nat]
        exact ⟨_, _, rfl, by simp only [go_sem, reduceIte, Nat.reduceEqDiff, Nat.reduceAdd, Nat.reduceMul, Nat.reduceSub, Int.reduceLE, Int.reduceLT, Int.reduceNe, Int.reduceToNat, Int.reducePow, Int.reduceAdd, Int.reduceMul, reduceCtorEq, true_and, and_true, cond_true, cond_false, List.map_cons, List.map_nil, Option.map_some, Option.map_none, List.getElem?_cons_zero, List.getElem?_cons_succ, ne_eq, not_false_eq_true, List.nil_append, List.append_nil, List.cons_append, List.contains_cons, List.contains_nil, Nat.reduceBEq, Bool.or_false, Bool.false_or, Bool.true_or, Bool.or_true, hf5], by simp only [go_sem, reduceIte, Nat.reduceEqDiff, Nat.reduceAdd, Nat.reduceMul, Nat.reduceSub, Int.reduceLE, Int.reduceLT, Int.reduceNe, Int.reduceToNat, Int.reducePow, Int.reduceAdd, Int.reduceMul, reduceCtorEq, true_and, and_true, cond_true, cond_false, List.map_cons, List.map_nil, Option.map_some, Option.map_none, List.getElem?_cons_zero, List.getElem?_cons_succ, ne_eq, not_false_eq_true, List.nil_append, List.append_nil, List.cons_append, List.contains_cons, List.contains_nil, Nat.reduceBEq, Bool.or_false, Bool.false_or, Bool.true_or, Bool.or_true, hf17], by simp only [go_sem, reduceIte, Nat.reduceEqDiff, Nat.reduceAdd, Nat.reduceMul, Nat.reduceSub, Int.reduceLE, Int.reduceLT, Int.reduceNe, Int.reduceToNat, Int.reducePow, Int.reduceAdd, Int.reduceMul, reduceCtorEq, true_and, and_true, cond_true, cond_false, List.map_cons, List.map_nil, Option.map_some, Option.map_none, List.getElem?_cons_zero, List.getElem?_cons_succ, ne_eq, not_false_eq_true, List.nil_append, List.append_nil, List.cons_append, List.contains_cons, List.contains_nil, Nat.reduceBEq, Bool.or_false, Bool.false_or, Bool.true_or, Bool.or_true, hf18], by simp only [go_sem, reduceIte, Nat.reduceEqDiff, Nat.reduceAdd, Nat.reduceMul, Nat.reduceSub, Int.reduceLE, Int.reduceLT, Int.reduceNe, Int.reduceToNat, Int.reducePow, Int.reduceAdd, Int.reduceMul, reduceCtorEq, true_and, and_true, cond_true, cond_false, List.map_cons, List.map_nil, Option.map_some, Option.map_none, List.getElem?_cons_zero, List.getElem?_cons_succ, ne_eq, not_false_eq_true, List.nil_append, List.append_nil, List.cons_append, List.contains_cons, List.contains_nil, Nat.reduceBEq, Bool.or_false, Bool.false_or, Bool.true_or, Bool.or_true, hf19], hk3, by simp only [go_sem, reduceIte, Nat.reduceEqDiff, Nat.reduceAdd, Nat.reduceMul, Nat.reduceSub, Int.reduceLE, Int.reduceLT, Int.reduceNe, Int.reduceToNat, Int.reducePow, Int.reduceAdd, Int.reduceMul, reduceCtorEq, true_and, and_true, cond_true, cond_false, List.map_cons, List.map_nil, Option.map_some, Option.map_none, List.getElem?_cons_zero, List.getElem?_cons_succ, ne_eq, not_false_eq_true, List.nil_append, List.append_nil, List.cons_append, List.contains_cons, List.contains_nil, Nat.reduceBEq, Bool.or_false, Bool.false_or, Bool.true_or, Bool.or_true], hr3⟩
    · have hdec : decF x (bs.drop at_) = mapD (fun v => v == x.raw12) (blockF 12 (bs.drop at_)) := by simp [decF, hk]
      rw [hdec]
      clear hdec
      have d0 : (((x.kind % 8 : Nat) : Int) == 0) = false := by rw [hk]; rfl
      have d1 : (((x.kind % 8 : Nat) : Int) == 1) = false := by rw [hk]; rfl
      have d2 : (((x.kind % 8 : Nat) : Int) == 2) = false := by rw [hk]; rfl
      have d3 : (((x.kind % 8 : Nat) : Int) == 3) = false := by rw [hk]; rfl
      have d4 : (((x.kind % 8 : Nat) : Int) == 4) = false := by rw [hk]; rfl
      have d5 : (((x.kind % 8 : Nat) : Int) == 5) = false := by rw [hk]; rfl
      have d6 : (((x.kind % 8 : Nat) : Int) == 6) = true := by rw [hk]; rfl
      obtain ⟨out, e1, ho⟩ := mblock_con hrH (by omega) 12 (by omega) n (by omega)
      have e1 : aCall E0 sp0 100000 n 27 [.ptr ri 0, .int .i64 12] H = some out := e1
      cases hF : blockF 12 (bs.drop at_) with
      | bad e =>
        rw [hF] at ho
        obtain ⟨h3, rfl, hr3, hk3⟩ := ho
        have c1 : aConvQ E0 H 24 9 v8 = some (.str (x.raw.take 12)) := conv_bytes byte24 str9 hv8
        have c2 : aConvQ E0 h3 24 9 v8 = some (.str (x.raw.take 12)) := conv_bytes byte24 str9 (hv8k h3 hk3)
        have c3 : aConvQ E0 h3 24 9 .nils = some (.str []) := conv_bytes byte24 str9 (show BS h3 .nils [] from rfl)
        simp only [go_sem, reduceIte, Nat.reduceEqDiff, Nat.reduceAdd, Nat.reduceMul, Nat.reduceSub, Int.reduceLE, Int.reduceLT, Int.reduceNe, Int.reduceToNat, Int.reducePow, Int.reduceAdd, Int.reduceMul, reduceCtorEq, true_and, and_true, cond_true, cond_false, List.map_cons, List.map_nil, Option.map_some, Option.map_none, List.getElem?_cons_zero, List.getElem?_cons_succ, ne_eq, not_false_eq_true, List.nil_append, List.append_nil, List.cons_append, List.contains_cons, List.contains_nil, Nat.reduceBEq, Bool.or_false, Bool.false_or, Bool.true_or, Bool.or_true, hf5, hf17, hf18, hf19, hHg, d0, d1, d2, d3, d4, d5, d6, e1, c1, c2, c3]
        exact ⟨_, _, rfl, by simp only [go_sem, reduceIte, Nat.reduceEqDiff, Nat.reduceAdd, Nat.reduceMul, Nat.reduceSub, Int.reduceLE, Int.reduceLT, Int.reduceNe, Int.reduceToNat, Int.reducePow, Int.reduceAdd, Int.reduceMul, reduceCtorEq, true_and, and_true, cond_true, cond_false, List.map_cons, List.map_nil, Option.map_some, Option.map_none, List.getElem?_cons_zero, List.getElem?_cons_succ, ne_eq, not_false_eq_true, List.nil_append, List.append_nil, List.cons_append, List.contains_cons, List.contains_nil, Nat.reduceBEq, Bool.or_false, Bool.false_or, Bool.true_or, Bool.or_true, hf5], by simp only [go_sem, reduceIte, Nat.reduceEqDiff, Nat.reduceAdd, Nat.reduceMul, Nat.reduceSub, Int.reduceLE, Int.reduceLT, Int.reduceNe, Int.reduceToNat, Int.reducePow, Int.reduceAdd, Int.reduceMul, reduceCtorEq, true_and, and_true, cond_true, cond_false, List.map_cons, List.map_nil, Option.map_some, Option.map_none, List.getElem?_cons_zero, List.getElem?_cons_succ, ne_eq, not_false_eq_true, List.nil_append, List.append_nil, List.cons_append, List.contains_cons, List.contains_nil, Nat.reduceBEq, Bool.or_false, Bool.false_or, Bool.true_or, Bool.or_true, hf17], by simp only [go_sem, reduceIte, Nat.reduceEqDiff, Nat.reduceAdd, Nat.reduceMul, Nat.reduceSub, Int.reduceLE, Int.reduceLT, Int.reduceNe, Int.reduceToNat, Int.reducePow, Int.reduceAdd, Int.reduceMul, reduceCtorEq, true_and, and_true, cond_true, cond_false, List.map_cons, List.map_nil, Option.map_some, Option.map_none, List.getElem?_cons_zero, List.getElem?_cons_succ, ne_eq, not_false_eq_true, List.nil_append, List.append_nil, List.cons_append, List.contains_cons, List.contains_nil, Nat.reduceBEq, Bool.or_false, Bool.false_or, Bool.true_or, Bool.or_true, hf18], by simp only [go_sem, reduceIte, Nat.reduceEqDiff, Nat.reduceAdd, Nat.reduceMul, Nat.reduceSub, Int.reduceLE, Int.reduceLT, Int.reduceNe, Int.reduceToNat, Int.reducePow, Int.reduceAdd, Int.reduceMul, reduceCtorEq, true_and, and_true, cond_true, cond_false, List.map_cons, List.map_nil, Option.map_some, Option.map_none, List.getElem?_cons_zero, List.getElem?_cons_succ, ne_eq, not_false_eq_true, List.nil_append, List.append_nil, List.cons_append, List.contains_cons, List.contains_nil, Nat.reduceBEq, Bool.or_false, Bool.false_or, Bool.true_or, Bool.or_true, hf19], hk3, hr3⟩
      | ok v k' =>
        rw [hF] at ho
        obtain ⟨w, h3, rfl, hr3, hk3, hw⟩ := ho
        have c1 : aConvQ E0 H 24 9 v8 = some (.str (x.raw.take 12)) := conv_bytes byte24 str9 hv8
        have c2 : aConvQ E0 h3 24 9 v8 = some (.str (x.raw.take 12)) := conv_bytes byte24 str9 (hv8k h3 hk3)
        have c3 : aConvQ E0 h3 24 9 w = some (.str v) := conv_bytes byte24 str9 hw
        simp only [go_sem, reduceIte, Nat.reduceEqDiff, Nat.reduceAdd, Nat.reduceMul, Nat.reduceSub, Int.reduceLE, Int.reduceLT, Int.reduceNe, Int.reduceToNat, Int.reducePow, Int.reduceAdd, Int.reduceMul, reduceCtorEq, true_and, and_true, cond_true, cond_false, List.map_cons, List.map_nil, Option.map_some, Option.map_none, List.getElem?_cons_zero, List.getElem?_cons_succ, ne_eq, not_false_eq_true, List.nil_append, List.append_nil, List.cons_append, List.contains_cons, List.contains_nil, Nat.reduceBEq, Bool.or_false, Bool.false_or, Bool.true_or, Bool.or_true, hf5, hf17, hf18, hf19, hHg, d0, d1, d2, d3, d4, d5, d6, e1, c1, c2, c3]
        exact ⟨_, _, rfl, by simp only [go_sem, reduceIte, Nat.reduceEqDiff, Nat.reduceAdd, Nat.reduceMul, Nat.reduceSub, Int.reduceLE, Int.reduceLT, Int.reduceNe, Int.reduceToNat, Int.reducePow, Int.reduceAdd, Int.reduceMul, reduceCtorEq, true_and, and_true, cond_true, cond_false, List.map_cons, List.map_nil, Option.map_some, Option.map_none, List.getElem?_cons_zero, List.getElem?_cons_succ, ne_eq, not_false_eq_true, List.nil_append, List.append_nil, List.cons_append, List.contains_cons, List.contains_nil, Nat.reduceBEq, Bool.or_false, Bool.false_or, Bool.true_or, Bool.or_true, hf5], by simp only [go_sem, reduceIte, Nat.reduceEqDiff, Nat.reduceAdd, Nat.reduceMul, Nat.reduceSub, Int.reduceLE, Int.reduceLT, Int.reduceNe, Int.reduceToNat, Int.reducePow, Int.reduceAdd, Int.reduceMul, reduceCtorEq, true_and, and_true, cond_true, cond_false, List.map_cons, List.map_nil, Option.map_some, Option.map_none, List.getElem?_cons_zero, List.getElem?_cons_succ, ne_eq, not_false_eq_true, List.nil_append, List.append_nil, List.cons_append, List.contains_cons, List.contains_nil, Nat.reduceBEq, Bool.or_false, Bool.false_or, Bool.true_or, Bool.or_true, hf17], by simp only [go_sem, reduceIte, Nat.reduceEqDiff, Nat.reduceAdd, Nat.reduceMul, Nat.reduceSub, Int.reduceLE, Int.reduceLT, Int.reduceNe, Int.reduceToNat, Int.reducePow, Int.reduceAdd, Int.reduceMul, reduceCtorEq, true_and, and_true, cond_true, cond_false, List.map_cons, List.map_nil, Option.map_some, Option.map_none, List.getElem?_cons_zero, List.getElem?_cons_succ, ne_eq, not_false_eq_true, List.nil_append, List.append_nil, List.cons_append, List.contains_cons, List.contains_nil, Nat.reduceBEq, Bool.or_false, Bool.false_or, Bool.true_or, Bool.or_true, hf18], by simp only [go_sem, reduceIte, Nat.reduceEqDiff, Nat.reduceAdd, Nat.reduceMul, Nat.reduceSub, Int.reduceLE, Int.reduceLT, Int.reduceNe, Int.reduceToNat, Int.reducePow, Int.reduceAdd, Int.reduceMul, reduceCtorEq, true_and, and_true, cond_true, cond_false, List.map_cons, List.map_nil, Option.map_some, Option.map_none, List.getElem?_cons_zero, List.getElem?_cons_succ, ne_eq, not_false_eq_true, List.nil_append, List.append_nil, List.cons_append, List.contains_cons, List.contains_nil, Nat.reduceBEq, Bool.or_false, Bool.false_or, Bool.true_or, Bool.or_true, hf19], hk3, by simp only [go_sem, reduceIte, Nat.reduceEqDiff, Nat.reduceAdd, Nat.reduceMul, Nat.reduceSub, Int.reduceLE, Int.reduceLT, Int.reduceNe, Int.reduceToNat, Int.reducePow, Int.reduceAdd, Int.reduceMul, reduceCtorEq, true_and, and_true, cond_true, cond_false, List.map_cons, List.map_nil, Option.map_some, Option.map_none, List.getElem?_cons_zero, List.getElem?_cons_succ, ne_eq, not_false_eq_true, List.nil_append, List.append_nil, List.cons_append, List.contains_cons, List.contains_nil, Nat.reduceBEq, Bool.or_false, Bool.false_or, Bool.true_or, Bool.or_true]; rfl, hr3⟩
    · have hdec : decF x (bs.drop at_) = mapD (fun v => v == [x.raw12, x.raw12.drop (x.raw12.length / 2)]) (textsF 2 12 (bs.drop at_)) := by simp [decF, hk]
      rw [hdec]
      clear hdec
      have d0 : (((x.kind % 8 : Nat) : Int) == 0) = false := by rw [hk]; rfl
      have d1 : (((x.kind % 8 : Nat) : Int) == 1) = false := by rw [hk]; rfl
      have d2 : (((x.kind % 8 : Nat) : Int) == 2) = false := by rw [hk]; rfl
      have d3 : (((x.kind % 8 : Nat) : Int) == 3) = false := by rw [hk]; rfl
      have d4 : (((x.kind % 8 : Nat) : Int) == 4) = false := by rw [hk]; rfl
      have d5 : (((x.kind % 8 : Nat) : Int) == 5) = false := by rw [hk]; rfl
      have d6 : (((x.kind % 8 : Nat) : Int) == 6) = false := by rw [hk]; rfl
      obtain ⟨out, e1, ho⟩ := texts_con hrH (by omega) 2 12 (by omega) (by omega) n (by omega)
      have e1 : aCall E0 sp0 100000 n 28 [.ptr ri 0, .int .i64 2, .int .i64 12] H = some out := e1
      cases hF : textsF 2 12 (bs.drop at_) with
      | bad e =>
        rw [hF] at ho
        obtain ⟨h3, rfl, hr3, hk3⟩ := ho
        have l1 : qBuiltin E0 h3 .len [.nils] [48] = some (.int .i64 0) := len_nils slice48
        have z0 : ((0 : Int) == 2) = false := rfl
        simp only [go_sem, reduceIte, Nat.reduceEqDiff, Nat.reduceAdd, Nat.reduceMul, Nat.reduceSub, Int.reduceLE, Int.reduceLT, Int.reduceNe, Int.reduceToNat, Int.reducePow, Int.reduceAdd, Int.reduceMul, reduceCtorEq, true_and, and_true, cond_true, cond_false, List.map_cons, List.map_nil, Option.map_some, Option.map_none, List.getElem?_cons_zero, List.getElem?_cons_succ, ne_eq, not_false_eq_true, List.nil_append, List.append_nil, List.cons_append, List.contains_cons, List.contains_nil, Nat.reduceBEq, Bool.or_false, Bool.false_or, Bool.true_or, Bool.or_true, hf5, hf17, hf18, hf19, hHg, d0, d1, d2, d3, d4, d5, d6, e1, l1, z0]
        exact ⟨_, _, rfl, by simp only [go_sem, reduceIte, Nat.reduceEqDiff, Nat.reduceAdd, Nat.reduceMul, Nat.reduceSub, Int.reduceLE, Int.reduceLT, Int.reduceNe, Int.reduceToNat, Int.reducePow, Int.reduceAdd, Int.reduceMul, reduceCtorEq, true_and, and_true, cond_true, cond_false, List.map_cons, List.map_nil, Option.map_some, Option.map_none, List.getElem?_cons_zero, List.getElem?_cons_succ, ne_eq, not_false_eq_true, List.nil_append, List.append_nil, List.cons_append, List.contains_cons, List.contains_nil, Nat.reduceBEq, Bool.or_false, Bool.false_or, Bool.true_or, Bool.or_true, hf5], by simp only [go_sem, reduceIte, Nat.reduceEqDiff, Nat.reduceAdd, Nat.reduceMul, Nat.reduceSub, Int.reduceLE, Int.reduceLT, Int.reduceNe, Int.reduceToNat, Int.reducePow, Int.reduceAdd, Int.reduceMul, reduceCtorEq, true_and, and_true, cond_true, cond_false, List.map_cons, List.map_nil, Option.map_some, Option.map_none, List.getElem?_cons_zero, List.getElem?_cons_succ, ne_eq, not_false_eq_true, List.nil_append, List.append_nil, List.cons_append, List.contains_cons, List.contains_nil, Nat.reduceBEq, Bool.or_false, Bool.false_or, Bool.true_or, Bool.or_true, hf17], by simp only [go_sem, reduceIte, Nat.reduceEqDiff, Nat.reduceAdd, Nat.reduceMul, Nat.reduceSub, Int.reduceLE, Int.reduceLT, Int.reduceNe, Int.reduceToNat, Int.reducePow, Int.reduceAdd, Int.reduceMul, reduceCtorEq, true_and, and_true, cond_true, cond_false, List.map_cons, List.map_nil, Option.map_some, Option.map_none, List.getElem?_cons_zero, List.getElem?_cons_succ, ne_eq, not_false_eq_true, List.nil_append, List.append_nil, List.cons_append, List.contains_cons, List.contains_nil, Nat.reduceBEq, Bool.or_false, Bool.false_or, Bool.true_or, Bool.or_true, hf18], by simp only [go_sem, reduceIte, Nat.reduceEqDiff, Nat.reduceAdd, Nat.reduceMul, Nat.reduceSub, Int.reduceLE, Int.reduceLT, Int.reduceNe, Int.reduceToNat, Int.reducePow, Int.reduceAdd, Int.reduceMul, reduceCtorEq, true_and, and_true, cond_true, cond_false, List.map_cons, List.map_nil, Option.map_some, Option.map_none, List.getElem?_cons_zero, List.getElem?_cons_succ, ne_eq, not_false_eq_true, List.nil_append, List.append_nil, List.cons_append, List.contains_cons, List.contains_nil, Nat.reduceBEq, Bool.or_false, Bool.false_or, Bool.true_or, Bool.or_true, hf19], hk3, hr3⟩
      | ok v k' =>
        rw [hF] at ho
        obtain ⟨w, h3, rfl, hr3, hk3, hw⟩ := ho
        have l1 : qBuiltin E0 h3 .len [w] [48] = some (.int .i64 (v.length : Nat)) := len_gen sl48 hw
        have hv3 := hv8k h3 hk3
        have c1 : aConvQ E0 h3 24 9 v8 = some (.str (x.raw.take 12)) := conv_bytes byte24 str9 hv3
        have c2 : qBuiltin E0 h3 .len [v8] [24] = some (.int .i64 ((x.raw.take 12).length : Nat)) := len_bytes byte24 hv3
        obtain ⟨v9, e9, hv9, _⟩ := slice_last hv3 (k := (x.raw.take 12).length / 2) (by omega)
        have c3 : aConvQ E0 h3 24 9 v9 = some (.str ((x.raw.take 12).drop ((x.raw.take 12).length / 2))) := conv_bytes byte24 str9 hv9
        by_cases h2 : v.length = 2
        case neg =>
          have z0 : (((v.length : Nat) : Int) == 2) = false := by simp; omega
          have zz : (v == [x.raw12, x.raw12.drop (x.raw12.length / 2)]) = false := by
            rw [beq_eq_false_iff_ne]; intro e; rw [e] at h2; exact h2 rfl
          simp only [go_sem, reduceIte, Nat.reduceEqDiff, Nat.reduceAdd, Nat.reduceMul, Nat.reduceSub, Int.reduceLE, Int.reduceLT, Int.reduceNe, Int.reduceToNat, Int.reducePow, Int.reduceAdd, Int.reduceMul, reduceCtorEq, true_and, and_true, cond_true, cond_false, List.map_cons, List.map_nil, Option.map_some, Option.map_none, List.getElem?_cons_zero, List.getElem?_cons_succ, ne_eq, not_false_eq_true, List.nil_append, List.append_nil, List.cons_append, List.contains_cons, List.contains_nil, Nat.reduceBEq, Bool.or_false, Bool.false_or, Bool.true_or, Bool.or_true, hf5, hf17, hf18, hf19, hHg, d0, d1, d2, d3, d4, d5, d6, e1, l1, z0]
          exact ⟨_, _, rfl, by simp only [go_sem, reduceIte, Nat.reduceEqDiff, Nat.reduceAdd, Nat.reduceMul, Nat.reduceSub, Int.reduceLE, Int.reduceLT, Int.reduceNe, Int.reduceToNat, Int.reducePow, Int.reduceAdd, Int.reduceMul, reduceCtorEq, true_and, and_true, cond_true, cond_false, List.map_cons, List.map_nil, Option.map_some, Option.map_none, List.getElem?_cons_zero, List.getElem?_cons_succ, ne_eq, not_false_eq_true, List.nil_append, List.append_nil, List.cons_append, List.contains_cons, List.contains_nil, Nat.reduceBEq, Bool.or_false, Bool.false_or, Bool.true_or, Bool.or_true, hf5], by simp only [go_sem, reduceIte, Nat.reduceEqDiff, Nat.reduceAdd, Nat.reduceMul, Nat.reduceSub, Int.reduceLE, Int.reduceLT, Int.reduceNe, Int.reduceToNat, Int.reducePow, Int.reduceAdd, Int.reduceMul, reduceCtorEq, true_and, and_true, cond_true, cond_false, List.map_cons, List.map_nil, Option.map_some, Option.map_none, List.getElem?_cons_zero, List.getElem?_cons_succ, ne_eq, not_false_eq_true, List.nil_append, List.append_nil, List.cons_append, List.contains_cons, List.contains_nil, Nat.reduceBEq, Bool.or_false, Bool.false_or, Bool.true_or, Bool.or_true, hf17], by simp only [go_sem, reduceIte, Nat.reduceEqDiff, Nat.reduceAdd, Nat.reduceMul, Nat.reduceSub, Int.reduceLE, Int.reduceLT, Int.reduceNe, Int.reduceToNat, Int.reducePow, Int.reduceAdd, Int.reduceMul, reduceCtorEq, true_and, and_true, cond_true, cond_false, List.map_cons, List.map_nil, Option.map_some, Option.map_none, List.getElem?_cons_zero, List.getElem?_cons_succ, ne_eq, not_false_eq_true, List.nil_append, List.append_nil, List.cons_append, List.contains_cons, List.contains_nil, Nat.reduceBEq, Bool.or_false, Bool.false_or, Bool.true_or, Bool.or_true, hf18], by simp only [go_sem, reduceIte, Nat.reduceEqDiff, Nat.reduceAdd, Nat.reduceMul, Nat.reduceSub, Int.reduceLE, Int.reduceLT, Int.reduceNe, Int.reduceToNat, Int.reducePow, Int.reduceAdd, Int.reduceMul, reduceCtorEq, true_and, and_true, cond_true, cond_false, List.map_cons, List.map_nil, Option.map_some, Option.map_none, List.getElem?_cons_zero, List.getElem?_cons_succ, ne_eq, not_false_eq_true, List.nil_append, List.append_nil, List.cons_append, List.contains_cons, List.contains_nil, Nat.reduceBEq, Bool.or_false, Bool.false_or, Bool.true_or, Bool.or_true, hf19], hk3, by simp only [go_sem, reduceIte, Nat.reduceEqDiff, Nat.reduceAdd, Nat.reduceMul, Nat.reduceSub, Int.reduceLE, Int.reduceLT, Int.reduceNe, Int.reduceToNat, Int.reducePow, Int.reduceAdd, Int.reduceMul, reduceCtorEq, true_and, and_true, cond_true, cond_false, List.map_cons, List.map_nil, Option.map_some, Option.map_none, List.getElem?_cons_zero, List.getElem?_cons_succ, ne_eq, not_false_eq_true, List.nil_append, List.append_nil, List.cons_append, List.contains_cons, List.contains_nil, Nat.reduceBEq, Bool.or_false, Bool.false_or, Bool.true_or, Bool.or_true, zz], hr3⟩
        case pos =>
          obtain ⟨s, t, rfl⟩ : ∃ s t, v = [s, t] := by
            match v, h2 with
            | [s, t], _ => exact ⟨s, t, rfl⟩
          have z0 : ((([s, t].length : Nat) : Int) == 2) = true := rfl
          obtain ⟨p0, i0, i1⟩ := index_load sl48 atom9 hw (k := .i64) (j := 0) (x := .str s) rfl
          obtain ⟨p1, i2, i3⟩ := index_load sl48 atom9 hw (k := .i64) (j := 1) (x := .str t) rfl
          have i0 : aIndexAt E0 48 w (.int .i64 0) = some p0 := i0
          have i2 : aIndexAt E0 48 w (.int .i64 1) = some p1 := i2
          have zz : ([s, t] == [x.raw12, x.raw12.drop (x.raw12.length / 2)]) = (bif (s == x.raw.take 12) then (t == (x.raw.take 12).drop ((x.raw.take 12).length / 2)) else false) := by
            show (s == x.raw.take 12 && (t == (x.raw.take 12).drop ((x.raw.take 12).length / 2) && true)) = _
            rw [Bool.and_true]
            cases (s == x.raw.take 12) <;> rfl
          have hw2 : IntKind.i64.wrap (((x.raw.take 12).length / 2 : Nat) : Int) = (((x.raw.take 12).length / 2 : Nat) : Int) := w_i64_in _ (by have := List.length_take_le 12 x.raw; omega)
          cases hs : (s == x.raw.take 12) with
          | false =>
            rw [hs, cond_false] at zz
            simp only [go_sem, reduceIte, Nat.reduceEqDiff, Nat.reduceAdd, Nat.reduceMul, Nat.reduceSub, Int.reduceLE, Int.reduceLT, Int.reduceNe, Int.reduceToNat, Int.reducePow, Int.reduceAdd, Int.reduceMul, reduceCtorEq, true_and, and_true, cond_true, cond_false, List.map_cons, List.map_nil, Option.map_some, Option.map_none, List.getElem?_cons_zero, List.getElem?_cons_succ, ne_eq, not_false_eq_true, List.nil_append, List.append_nil, List.cons_append, List.contains_cons, List.contains_nil, Nat.reduceBEq, Bool.or_false, Bool.false_or, Bool.true_or, Bool.or_true, hf5, hf17, hf18, hf19, hHg, d0, d1, d2, d3, d4, d5, d6, e1, l1, z0, i0, i1, i2, i3, c1, c2, tdiv2, hw2, e9, c3, hs]
            exact ⟨_, _, rfl, by simp only [go_sem, reduceIte, Nat.reduceEqDiff, Nat.reduceAdd, Nat.reduceMul, Nat.reduceSub, Int.reduceLE, Int.reduceLT, Int.reduceNe, Int.reduceToNat, Int.reducePow, Int.reduceAdd, Int.reduceMul, reduceCtorEq, true_and, and_true, cond_true, cond_false, List.map_cons, List.map_nil, Option.map_some, Option.map_none, List.getElem?_cons_zero, List.getElem?_cons_succ, ne_eq, not_false_eq_true, List.nil_append, List.append_nil, List.cons_append, List.contains_cons, List.contains_nil, Nat.reduceBEq, Bool.or_false, Bool.false_or, Bool.true_or, Bool.or_true, hf5], by simp only [go_sem, reduceIte, Nat.reduceEqDiff, Nat.reduceAdd, Nat.reduceMul, Nat.reduceSub, Int.reduceLE, Int.reduceLT, Int.reduceNe, Int.reduceToNat, Int.reducePow, Int.reduceAdd, Int.reduceMul, reduceCtorEq, true_and, and_true, cond_true, cond_false, List.map_cons, List.map_nil, Option.map_some, Option.map_none, List.getElem?_cons_zero, List.getElem?_cons_succ, ne_eq, not_false_eq_true, List.nil_append, List.append_nil, List.cons_append, List.contains_cons, List.contains_nil, Nat.reduceBEq, Bool.or_false, Bool.false_or, Bool.true_or, Bool.or_true, hf17], by simp only [go_sem, reduceIte, Nat.reduceEqDiff, Nat.reduceAdd, Nat.reduceMul, Nat.reduceSub, Int.reduceLE, Int.reduceLT, Int.reduceNe, Int.reduceToNat, Int.reducePow, Int.reduceAdd, Int.reduceMul, reduceCtorEq, true_and, and_true, cond_true, cond_false, List.map_cons, List.map_nil, Option.map_some, Option.map_none, List.getElem?_cons_zero, List.getElem?_cons_succ, ne_eq, not_false_eq_true, List.nil_append, List.append_nil, List.cons_append, List.contains_cons, List.contains_nil, Nat.reduceBEq, Bool.or_false, Bool.false_or, Bool.true_or, Bool.or_true, hf18], by simp only [go_sem, reduceIte, Nat.reduceEqDiff, Nat.reduceAdd, Nat.reduceMul, Nat.reduceSub, Int.reduceLE, Int.reduceLT, Int.reduceNe, Int.reduceToNat, Int.reducePow, Int.reduceAdd, Int.reduceMul, reduceCtorEq, true_and, and_true, cond_true, cond_false, List.map_cons, List.map_nil, Option.map_some, Option.map_none, List.getElem?_cons_zero, List.getElem?_cons_succ, ne_eq, not_false_eq_true, List.nil_append, List.append_nil, List.cons_append, List.contains_cons, List.contains_nil, Nat.reduceBEq, Bool.or_false, Bool.false_or, Bool.true_or, Bool.or_true, hf19], hk3, by simp only [go_sem, reduceIte, Nat.reduceEqDiff, Nat.reduceAdd, Nat.reduceMul, Nat.reduceSub, Int.reduceLE, Int.reduceLT, Int.reduceNe, Int.reduceToNat, Int.reducePow, Int.reduceAdd, Int.reduceMul, reduceCtorEq, true_and, and_true, cond_true, cond_false, List.map_cons, List.map_nil, Option.map_some, Option.map_none, List.getElem?_cons_zero, List.getElem?_cons_succ, ne_eq, not_false_eq_true, List.nil_append, List.append_nil, List.cons_append, List.contains_cons, List.contains_nil, Nat.reduceBEq, Bool.or_false, Bool.false_or, Bool.true_or, Bool.or_true, zz], hr3⟩
          | true =>
            rw [hs, cond_true] at zz
            simp only [go_sem, reduceIte, Nat.reduceEqDiff, Nat.reduceAdd, Nat.reduceMul, Nat.reduceSub, Int.reduceLE, Int.reduceLT, Int.reduceNe, Int.reduceToNat, Int.reducePow, Int.reduceAdd, Int.reduceMul, reduceCtorEq, true_and, and_true, cond_true, cond_false, List.map_cons, List.map_nil, Option.map_some, Option.map_none, List.getElem?_cons_zero, List.getElem?_cons_succ, ne_eq, not_false_eq_true, List.nil_append, List.append_nil, List.cons_append, List.contains_cons, List.contains_nil, Nat.reduceBEq, Bool.or_false, Bool.false_or, Bool.true_or, Bool.or_true, hf5, hf17, hf18, hf19, hHg, d0, d1, d2, d3, d4, d5, d6, e1, l1, z0, i0, i1, i2, i3, c1, c2, tdiv2, hw2, e9, c3, hs]
            exact ⟨_, _, rfl, by simp only [go_sem, reduceIte, Nat.reduceEqDiff, Nat.reduceAdd, Nat.reduceMul, Nat.reduceSub, Int.reduceLE, Int.reduceLT, Int.reduceNe, Int.reduceToNat, Int.reducePow, Int.reduceAdd, Int.reduceMul, reduceCtorEq, true_and, and_true, cond_true, cond_false, List.map_cons, List.map_nil, Option.map_some, Option.map_none, List.getElem?_cons_zero, List.getElem?_cons_succ, ne_eq, not_false_eq_true, List.nil_append, List.append_nil, List.cons_append, List.contains_cons, List.contains_nil, Nat.reduceBEq, Bool.or_false, Bool.false_or, Bool.true_or, Bool.or_true, hf5], by simp only [go_sem, reduceIte, Nat.reduceEqDiff, Nat.reduceAdd, Nat.reduceMul, Nat.reduceSub, Int.reduceLE, Int.reduceLT, Int.reduceNe, Int.reduceToNat, Int.reducePow, Int.reduceAdd, Int.reduceMul, reduceCtorEq, true_and, and_true, cond_true, cond_false, List.map_cons, List.map_nil, Option.map_some, Option.map_none, List.getElem?_cons_zero, List.getElem?_cons_succ, ne_eq, not_false_eq_true, List.nil_append, List.append_nil, List.cons_append, List.contains_cons, List.contains_nil, Nat.reduceBEq, Bool.or_false, Bool.false_or, Bool.true_or, Bool.or_true, hf17], by simp only [go_sem, reduceIte, Nat.reduceEqDiff, Nat.reduceAdd, Nat.reduceMul, Nat.reduceSub, Int.reduceLE, Int.reduceLT, Int.reduceNe, Int.reduceToNat, Int.reducePow, Int.reduceAdd, Int.reduceMul, reduceCtorEq, true_and, and_true, cond_true, cond_false, List.map_cons, List.map_nil, Option.map_some, Option.map_none, List.getElem?_cons_zero, List.getElem?_cons_succ, ne_eq, not_false_eq_true, List.nil_append, List.append_nil, List.cons_append, List.contains_cons, List.contains_nil, Nat.reduceBEq, Bool.or_false, Bool.false_or, Bool.true_or, Bool.or_true, hf18], by simp only [go_sem, reduceIte, Nat.reduceEqDiff, Nat.reduceAdd, Nat.reduceMul, Nat.reduceSub, Int.reduceLE, Int.reduceLT, Int.reduceNe, Int.reduceToNat, Int.reducePow, Int.reduceAdd, Int.reduceMul, reduceCtorEq, true_and, and_true, cond_true, cond_false, List.map_cons, List.map_nil, Option.map_some, Option.map_none, List.getElem?_cons_zero, List.getElem?_cons_succ, ne_eq, not_false_eq_true, List.nil_append, List.append_nil, List.cons_append, List.contains_cons, List.contains_nil, Nat.reduceBEq, Bool.or_false, Bool.false_or, Bool.true_or, Bool.or_true, hf19], hk3, by simp only [go_sem, reduceIte, Nat.reduceEqDiff, Nat.reduceAdd, Nat.reduceMul, Nat.reduceSub, Int.reduceLE, Int.reduceLT, Int.reduceNe, Int.reduceToNat, Int.reducePow, Int.reduceAdd, Int.reduceMul, reduceCtorEq, true_and, and_true, cond_true, cond_false, List.map_cons, List.map_nil, Option.map_some, Option.map_none, List.getElem?_cons_zero, List.getElem?_cons_succ, ne_eq, not_false_eq_true, List.nil_append, List.append_nil, List.cons_append, List.contains_cons, List.contains_nil, Nat.reduceBEq, Bool.or_false, Bool.false_or, Bool.true_or, Bool.or_true, zz], hr3⟩
  · rintro _ ⟨fr', h', rfl, g5, g17, g18, g19, gk, gA⟩
    have hkk : Keep h h' [] := ((hk1.trans hHk).trans gk).mono (fun j hj hlt => by simp at hj; omega)
    rw [hF, hdrop]
    simp only [readsF]
    cases hD : decF x (bs.drop at_) with
    | bad e =>
      rw [hD] at gA
      have gr : RD h' ri bv bs at_ (e : Nat) := gA
      have hne0 := decF_bad hD
      obtain ⟨_, e6, rfl⟩ := fault_con gr n (by omega)
      obtain ⟨_, e7, rfl⟩ := end_con gr (by omega) n (by omega)
      have d1 : (((e : Nat) : Int) != 0) = true := by simp; omega
      simp only [go_sem, reduceIte, Nat.reduceEqDiff, Nat.reduceAdd, Nat.reduceMul, Nat.reduceSub, Int.reduceLE, Int.reduceLT, Int.reduceNe, Int.reduceToNat, Int.reducePow, Int.reduceAdd, Int.reduceMul, reduceCtorEq, true_and, and_true, cond_true, cond_false, List.map_cons, List.map_nil, Option.map_some, Option.map_none, List.getElem?_cons_zero, List.getElem?_cons_succ, ne_eq, not_false_eq_true, List.nil_append, List.append_nil, List.cons_append, List.contains_cons, List.contains_nil, Nat.reduceBEq, Bool.or_false, Bool.false_or, Bool.true_or, Bool.or_true, g5, g17, g18, g19, e6, e7, d1, aResults_two (F := Try.f19) rfl]
      refine ⟨_, ?_, hkk⟩
      rw [if_neg (by omega)]
    | ok b k =>
      rw [hD] at gA
      obtain ⟨g9, gr⟩ := gA
      obtain ⟨_, e6, rfl⟩ := fault_con gr n (by omega)
      have d1 : ((0 : Int) != 0) = false := rfl
      cases b with
      | false =>
        simp only [go_sem, reduceIte, Nat.reduceEqDiff, Nat.reduceAdd, Nat.reduceMul, Nat.reduceSub, Int.reduceLE, Int.reduceLT, Int.reduceNe, Int.reduceToNat, Int.reducePow, Int.reduceAdd, Int.reduceMul, reduceCtorEq, true_and, and_true, cond_true, cond_false, List.map_cons, List.map_nil, Option.map_some, Option.map_none, List.getElem?_cons_zero, List.getElem?_cons_succ, ne_eq, not_false_eq_true, List.nil_append, List.append_nil, List.cons_append, List.contains_cons, List.contains_nil, Nat.reduceBEq, Bool.or_false, Bool.false_or, Bool.true_or, Bool.or_true, g5, g9, g17, g18, g19, e6, d1, aResults_two (F := Try.f19) rfl]
        exact ⟨_, rfl, hkk⟩
      | true =>
        simp only [go_sem, reduceIte, Nat.reduceEqDiff, Nat.reduceAdd, Nat.reduceMul, Nat.reduceSub, Int.reduceLE, Int.reduceLT, Int.reduceNe, Int.reduceToNat, Int.reducePow, Int.reduceAdd, Int.reduceMul, reduceCtorEq, true_and, and_true, cond_true, cond_false, List.map_cons, List.map_nil, Option.map_some, Option.map_none, List.getElem?_cons_zero, List.getElem?_cons_succ, ne_eq, not_false_eq_true, List.nil_append, List.append_nil, List.cons_append, List.contains_cons, List.contains_nil, Nat.reduceBEq, Bool.or_false, Bool.false_or, Bool.true_or, Bool.or_true, g5, g9, g17, g18, g19, e6, d1, w_inc (show i ≤ 1000000000 by omega)]
        exact ⟨l.length - (i + 1), by omega, i + 1, at_ + k, rfl, by omega, rfl, gr, hkk, by rw [← List.drop_drop]; simp⟩
end Go.Proofs.Yteblojfcalgoeaa

/- Seat 1: what is put is read: the plain law. Conditions: none. -/
namespace Go.Proofs.Yteblojfcalgoeaa
open Go Go.RowKit
set_option linter.unusedVariables false

theorem leV_leB_mod : ∀ (k n : Nat), leV (leB k n) = n % 256 ^ k
  | 0, n => by simp [leB, leV, Nat.mod_one]
  | k + 1, n => by
      rw [leB, leV, leV_leB_mod k, u8_small (by omega), Nat.pow_succ, Nat.mul_comm (256 ^ k) 256, Nat.mod_mul]
theorem fixF_full {w n : Nat} {rest : List UInt8} : fixF w (leB w n ++ rest) = .ok (n % 256 ^ w) w := by
  unfold fixF
  rw [if_pos (by rw [List.length_append, leB_length]; omega)]
  rw [List.take_append_of_le_length (by rw [leB_length]; omega), List.take_of_length_le (by rw [leB_length]; omega), leV_leB_mod]
theorem fixF_cut {w n t : Nat} (ht : t < w) : fixF w ((leB w n).take t) = .bad 70 := by
  unfold fixF
  rw [if_neg (by rw [List.length_take, leB_length]; omega)]

theorem blockB_len (s : List UInt8) : (blockB s).length = (shortB s.length).length + s.length := by simp [blockB]
theorem flatT_cons (s : List UInt8) (r : List (List UInt8)) : flatT (s :: r) = blockB s ++ flatT r := by simp [flatT, blockB]
theorem blocksF_full {each : Nat} (he : each < 18446744073709551616) : ∀ (ps : List (List UInt8)) (rest : List UInt8), (∀ p ∈ ps, p.length ≤ each) → blocksF each ps.length (flatT ps ++ rest) = .ok ps (flatT ps).length
  | [], rest, _ => rfl
  | p :: ps, rest, h => by
      have hp := h p List.mem_cons_self
      rw [List.length_cons, blocksF, flatT_cons, List.append_assoc, blockF_block hp (by omega)]
      simp only [List.drop_append_of_le_length (Nat.le_refl _), List.drop_length, List.nil_append]
      rw [blocksF_full he ps rest fun q hq => h q (List.mem_cons_of_mem _ hq)]
      simp
theorem blocksF_cut {each : Nat} (he : each < 18446744073709551616) : ∀ (ps : List (List UInt8)) (t : Nat), (∀ p ∈ ps, p.length ≤ each) → t < (flatT ps).length → blocksF each ps.length ((flatT ps).take t) = .bad 70
  | [], t, _, ht => by simp [flatT] at ht
  | p :: ps, t, h, ht => by
      have hp := h p List.mem_cons_self
      rw [List.length_cons, blocksF, flatT_cons]
      rw [flatT_cons, List.length_append] at ht
      by_cases h1 : t < (blockB p).length
      · rw [List.take_append_of_le_length (by omega), blockF_cut hp (by omega) h1]
      · rw [List.take_append, List.take_of_length_le (by omega), blockF_block hp (by omega)]
        simp only [List.drop_append_of_le_length (Nat.le_refl _), List.drop_length, List.nil_append]
        rw [blocksF_cut he ps _ (fun q hq => h q (List.mem_cons_of_mem _ hq)) (by omega)]
theorem textsF_full {most each : Nat} (hm : most < 18446744073709551616) (he : each < 18446744073709551616) {ps : List (List UInt8)} {rest : List UInt8} (hl : ps.length ≤ most) (h : ∀ p ∈ ps, p.length ≤ each) : textsF most each (shortB ps.length ++ flatT ps ++ rest) = .ok ps (shortB ps.length ++ flatT ps).length := by
  have h1 := numF_short ps.length 0 0 (flatT ps ++ rest) (.inl rfl) (by omega) (by simp; omega)
  unfold textsF
  rw [List.append_assoc, h1]
  simp only [Nat.zero_add, Nat.mul_zero, Nat.pow_zero, Nat.mul_one]
  rw [if_pos hl, List.drop_append_of_le_length (Nat.le_refl _), List.drop_length, List.nil_append, blocksF_full he ps rest h]
  simp [afterF]
theorem textsF_cut {most each t : Nat} (hm : most < 18446744073709551616) (he : each < 18446744073709551616) {ps : List (List UInt8)} (hl : ps.length ≤ most) (h : ∀ p ∈ ps, p.length ≤ each) (ht : t < (shortB ps.length ++ flatT ps).length) : textsF most each ((shortB ps.length ++ flatT ps).take t) = .bad 70 := by
  unfold textsF
  by_cases h1 : t < (shortB ps.length).length
  · rw [List.take_append_of_le_length (by omega), numF_cut ps.length 0 0 t (by omega) (by simp; omega) h1]
  · rw [List.length_append] at ht
    have h2 := numF_short ps.length 0 0 ((flatT ps).take (t - (shortB ps.length).length)) (.inl rfl) (by omega) (by simp; omega)
    rw [List.take_append, List.take_of_length_le (by omega), h2]
    simp only [Nat.zero_add, Nat.mul_zero, Nat.pow_zero, Nat.mul_one]
    rw [if_pos hl, List.drop_append_of_le_length (Nat.le_refl _), List.drop_length, List.nil_append, blocksF_cut he ps _ h (by omega)]
    rfl

/-- An item as bytes. -/
def encF (x : It) : List UInt8 :=
  if x.kind % 8 = 0 then leB 1 x.n
  else if x.kind % 8 = 1 then leB 2 x.n
  else if x.kind % 8 = 2 then leB 4 x.n
  else if x.kind % 8 = 3 then leB 8 x.n
  else if x.kind % 8 = 4 then shortB x.n
  else if x.kind % 8 = 5 then shortB (zigN (IntKind.i64.wrap (x.n : Nat)))
  else if x.kind % 8 = 6 then blockB x.raw12
  else shortB 2 ++ flatT [x.raw12, x.raw12.drop (x.raw12.length / 2)]
def encL (l : List It) : List UInt8 := (l.map encF).flatten

theorem raw12_len (x : It) : x.raw12.length ≤ 12 := List.length_take_le 12 x.raw
theorem i64_rng (n : Int) : -9223372036854775808 ≤ IntKind.i64.wrap n ∧ IntKind.i64.wrap n < 9223372036854775808 := by
  rw [IntKind.wrap_i64]; omega

theorem dec_full (x : It) (hn : x.n < 18446744073709551616) (rest : List UInt8) : decF x (encF x ++ rest) = .ok true (encF x).length := by
  have h8 : x.kind % 8 = 0 ∨ x.kind % 8 = 1 ∨ x.kind % 8 = 2 ∨ x.kind % 8 = 3 ∨ x.kind % 8 = 4 ∨ x.kind % 8 = 5 ∨ x.kind % 8 = 6 ∨ x.kind % 8 = 7 := by omega
  have hr := raw12_len x
  have hi := i64_rng (x.n : Nat)
  have hz := zigN_lt _ hi.1 hi.2
  unfold decF encF
  rcases h8 with hk | hk | hk | hk | hk | hk | hk | hk
  · simp [hk, fixF_full, mapD, leB_length]
  · simp [hk, fixF_full, mapD, leB_length]
  · simp [hk, fixF_full, mapD, leB_length]
  · simp [hk, fixF_full, mapD, leB_length, Nat.mod_eq_of_lt hn]
  · simp [hk, numF_short x.n 0 0 rest (.inl rfl) (by omega) (by simpa using hn), mapD]
  · simp [hk, numF_short _ 0 0 rest (.inl rfl) (by omega) (by simpa using hz), mapD, zagI_zigN]
  · simp [hk, blockF_block (rest := rest) hr (by omega), mapD]
  · have := textsF_full (most := 2) (each := 12) (by omega) (by omega) (ps := [x.raw12, x.raw12.drop (x.raw12.length / 2)]) (rest := rest) (by simp) (by
      intro p hp
      simp at hp
      rcases hp with rfl | rfl
      · exact hr
      · simp; omega)
    simp only [List.length_cons, List.length_nil] at this
    simp only [hk]
    simp only [reduceIte, Nat.reduceEqDiff]
    rw [show 0 + 1 + 1 = 2 from rfl] at this
    rw [this]
    simp [mapD]
theorem dec_cut (x : It) (hn : x.n < 18446744073709551616) {t : Nat} (ht : t < (encF x).length) : decF x ((encF x).take t) = .bad 70 := by
  have h8 : x.kind % 8 = 0 ∨ x.kind % 8 = 1 ∨ x.kind % 8 = 2 ∨ x.kind % 8 = 3 ∨ x.kind % 8 = 4 ∨ x.kind % 8 = 5 ∨ x.kind % 8 = 6 ∨ x.kind % 8 = 7 := by omega
  have hr := raw12_len x
  have hi := i64_rng (x.n : Nat)
  have hz := zigN_lt _ hi.1 hi.2
  unfold decF
  unfold encF at ht ⊢
  rcases h8 with hk | hk | hk | hk | hk | hk | hk | hk <;> simp only [hk, reduceIte, Nat.reduceEqDiff] at ht ⊢
  · rw [fixF_cut (by simpa [leB_length] using ht)]; rfl
  · rw [fixF_cut (by simpa [leB_length] using ht)]; rfl
  · rw [fixF_cut (by simpa [leB_length] using ht)]; rfl
  · rw [fixF_cut (by simpa [leB_length] using ht)]; rfl
  · rw [numF_cut x.n 0 0 t (by omega) (by simpa using hn) ht]; rfl
  · rw [numF_cut _ 0 0 t (by omega) (by simpa using hz) ht]; rfl
  · rw [blockF_cut hr (by omega) ht]; rfl
  · have := textsF_cut (most := 2) (each := 12) (t := t) (by omega) (by omega) (ps := [x.raw12, x.raw12.drop (x.raw12.length / 2)]) (by simp) (by
      intro p hp
      simp at hp
      rcases hp with rfl | rfl
      · exact hr
      · simp; omega) ht
    simp only [List.length_cons, List.length_nil] at this
    rw [show 0 + 1 + 1 = 2 from rfl] at this
    rw [this]; rfl

theorem reads_full : ∀ (l : List It) (rest : List UInt8), (∀ x ∈ l, x.n < 18446744073709551616) → readsF l (encL l ++ rest) = (true, if rest.length = 0 then 0 else 72)
  | [], rest, _ => rfl
  | x :: l, rest, h => by
      have e : encL (x :: l) = encF x ++ encL l := rfl
      rw [e, List.append_assoc, readsF, dec_full x (h x List.mem_cons_self)]
      simp only [if_true, List.drop_append_of_le_length (Nat.le_refl _), List.drop_length, List.nil_append]
      exact reads_full l rest fun y hy => h y (List.mem_cons_of_mem _ hy)
theorem reads_cut : ∀ (l : List It) (t : Nat), (∀ x ∈ l, x.n < 18446744073709551616) → t < (encL l).length → readsF l ((encL l).take t) = (true, 70)
  | [], t, _, ht => by simp [encL] at ht
  | x :: l, t, h, ht => by
      have e : encL (x :: l) = encF x ++ encL l := rfl
      rw [e] at ht ⊢
      rw [List.length_append] at ht
      rw [readsF]
      by_cases h1 : t < (encF x).length
      · rw [List.take_append_of_le_length (by omega), dec_cut x (h x List.mem_cons_self) h1]
      · rw [List.take_append, List.take_of_length_le (by omega), dec_full x (h x List.mem_cons_self)]
        simp only [if_true, List.drop_append_of_le_length (Nat.le_refl _), List.drop_length, List.nil_append]
        exact reads_cut l _ (fun y hy => h y (List.mem_cons_of_mem _ hy)) (by omega)
end Go.Proofs.Yteblojfcalgoeaa
