/- Parts of the abstract machine and of its laws, joined. Conditions: none. -/
import Derived.Test.YteblojfcalgoeaaQV
import Derived.Test.YteblojfcalgoeaaQD
set_option linter.unusedVariables false
set_option linter.unusedSimpArgs false
/- Seat 1: codec's Uvarint and Varint. Conditions: none. -/
namespace Go.Proofs.Yteblojfcalgoeaa
open Go Go.RowKit
set_option maxRecDepth 100000
set_option linter.unusedSimpArgs false
set_option linter.unusedVariables false

/-- What a closure comes to that reads. -/
def CloO {α : Type} (ri : Nat) (bv : AV) (bs : List UInt8) (at_ : Nat) (S : List Nat) (H : AH) (F : DR α) (Q : α → AH → Prop) (o : Out) : Prop :=
  match F with
  | .ok x k => ∃ h2, o = .ret (.tup []) h2 ∧ RD h2 ri bv bs (at_ + k) 0 ∧ Keep H h2 (ri :: S) ∧ Q x h2
  | .bad e => ∃ h2 at2, o = .pan (.iface 39 (.int .i64 (e : Nat))) h2 ∧ RD h2 ri bv bs at2 0 ∧ Keep H h2 [ri]
/-- What a reader's method comes to. -/
def MeO {α : Type} (ri : Nat) (bv : AV) (bs : List UInt8) (at_ : Nat) (h : AH) (F : DR α) (z : AV) (Q : α → AV → AH → Prop) (o : Out) : Prop :=
  match F with
  | .ok x k => ∃ v h2, o = .ret v h2 ∧ RD h2 ri bv bs (at_ + k) 0 ∧ Keep h h2 [ri] ∧ Q x v h2
  | .bad e => ∃ h2, o = .ret z h2 ∧ RD h2 ri bv bs at_ (e : Nat) ∧ Keep h h2 [ri]

theorem aResults_cell {E : Env} {F : Func} {fr : Nat → AV} {h : AH} {a : Tmp} {t : TypeId} (hr : F.results = #[.cell a t]) : aResults E F fr h = aLoad E h t (fr a) := by
  simp only [aResults, hr, aResL, aRes1]
  cases aLoad E h t (fr a) <;> rfl

/-- Behind a reading. -/
def MeA {α : Type} (ri : Nat) (bv : AV) (bs : List UInt8) (at_ : Nat) (z : AV) (V : α → AV → AH → Prop) (h' : AH) (v : AV) : DR α → Prop
  | .ok x k => RD h' ri bv bs (at_ + k) 0 ∧ V x v h'
  | .bad e => v = z ∧ RD h' ri bv bs at_ (e : Nat)

/-- A reading whose closure puts what it read into an object of the method's own; behind it. -/
theorem reading_me {α : Type} {ri : Nat} {bv : AV} {bs : List UInt8} {at_ : Nat} {h h1 : AH} (hr : RD h ri bv bs at_ 0) (hk : Keep h h1 []) {g : FuncId} (hg : (E0.fn g).isSome = true) {caps : List AV} {d n : Nat} {vi : Nat} {F : DR α} {V : α → AV → AH → Prop} {T : TypeId} {z : AV}
    (hv1 : h.next ≤ vi) (hv2 : vi < h1.next) (hz : h1.get vi = .cells [z] T .own)
    (hdo : RD (rdHeap h1 ri at_) ri bv bs at_ 0 → Keep h1 (rdHeap h1 ri at_) [] → Con E0 sp0 100000 d g caps (rdHeap h1 ri at_) (CloO ri bv bs at_ [vi] (rdHeap h1 ri at_) F fun x h2 => ∃ v, h2.get vi = .cells [v] T .own ∧ V x v h2)) (hn : d + 1 ≤ n) :
    ∃ h' v, aCall E0 sp0 100000 n 68 [.ptr ri 0, .fn (.func g) [] caps] h1 = some (.ret (.tup []) h') ∧ h'.get vi = .cells [v] T .own ∧ Keep h h' [ri] ∧ vi < h'.next ∧ MeA ri bv bs at_ z V h' v F := by
  have hr1 : RD h1 ri bv bs at_ 0 := hr.keep hk (by simp) (by simp)
  have hr2 : RD (rdHeap h1 ri at_) ri bv bs at_ 0 := hr1.keep keep_rd (by simp) (by simp)
  have hlt := hr.lt
  obtain ⟨out, e1, h', rfl, ho⟩ := reading_use hr1 hg (hdo hr2 keep_rd) n hn
  unfold RdO at ho
  cases F with
  | ok x k =>
    obtain ⟨a1, a2, v, a3, a4⟩ := ho
    exact ⟨h', v, e1, a3, (hk.trans a2).mono (fun j hj hlt => by simp at hj ⊢; omega), Nat.lt_of_lt_of_le hv2 a2.next, a1, a4⟩
  | bad e =>
    obtain ⟨a1, a2⟩ := ho
    exact ⟨h', z, e1, by rw [a2.get _ hv2 (by simp; omega)]; exact hz, (hk.trans a2).mono (by simp), Nat.lt_of_lt_of_le hv2 a2.next, rfl, a1⟩

theorem RD.set_other {h : AH} {ri : Nat} {bv : AV} {bs : List UInt8} {at_ : Nat} {ft : Int} (hr : RD h ri bv bs at_ ft) {i : Nat} {o : AO} (h1 : i ≠ ri) (h2 : ∀ j ∈ ids bv, j ≠ i) : RD (h.set i o) ri bv bs at_ ft :=
  hr.keep (Keep.set h i o) (by simp; omega) (fun j hj => by simpa using h2 j hj)
theorem keep_set {h h' : AH} {S : List Nat} {i : Nat} {o : AO} (k : Keep h h' S) (hi : h.next ≤ i) : Keep h (h'.set i o) S :=
  (k.trans (Keep.set h' i o)).mono (fun j hj hlt => by simp at hj; rcases hj with hj | hj; exact hj; omega)
theorem keep_set_in {h h' : AH} {S : List Nat} {i : Nat} {o : AO} (k : Keep h h' S) (hi : i ∈ S) : Keep h (h'.set i o) S :=
  (k.trans (Keep.set h' i o)).mono (fun j hj hlt => by simp at hj; rcases hj with hj | hj; exact hj; exact hj ▸ hi)
theorem BS.lt {h : AH} {v : AV} {bs : List UInt8} (hb : BS h v bs) : ∀ i ∈ ids v, i < h.next := by
  cases v <;> simp only [BS] at hb <;> simp [ids]
  exact hb.2.1
theorem RD.bv_lt {h : AH} {ri : Nat} {bv : AV} {bs : List UInt8} {at_ : Nat} {ft : Int} (hr : RD h ri bv bs at_ ft) : ∀ i ∈ ids bv, i < h.next := hr.hbs.lt

theorem uvclo_con {ri bi vi : Nat} {bv : AV} {bs : List UInt8} {at_ : Nat} {H : AH} (hr : RD H ri bv bs at_ 0) (hl : bs.length ≤ 140737488355328) (hb : bi < H.next) (hbg : H.get bi = .cells [.ptr ri 0] 40 .own) (hv : vi < H.next) {z : AV} (hvg : H.get vi = .cells [z] 25 .own) (h1 : vi ≠ ri) (h2 : ∀ j ∈ ids bv, j ≠ vi) (h3 : bi ≠ ri) :
    Con E0 sp0 100000 4 74 [.ptr bi 0, .ptr vi 0] H (CloO ri bv bs at_ [vi] H (numF 0 0 (bs.drop at_)) fun x h2 => ∃ v, h2.get vi = .cells [v] 25 .own ∧ v = .int .u64 (x : Nat) ∧ x < 18446744073709551616) := by
  refine Con.of_body rfl fn74 fun n hn => ⟨rfl, ?_⟩
  conv in slim _ _ _ => cbv
  obtain ⟨out, e1, ho⟩ := number_con hr hl n hn
  cases hF : numF 0 0 (bs.drop at_) with
  | bad e =>
    rw [hF] at ho
    obtain ⟨h2, at2, rfl, hr2, hk2⟩ := ho
    simp only [go_sem, reduceIte, Nat.reduceEqDiff, Nat.reduceAdd, Nat.reduceMul, Nat.reduceSub, Int.reduceLE, Int.reduceLT, Int.reduceNe, Int.reduceToNat, Int.reducePow, Int.reduceAdd, Int.reduceMul, reduceCtorEq, true_and, and_true, cond_true, cond_false, List.map_cons, List.map_nil, Option.map_some, Option.map_none, List.getElem?_cons_zero, List.getElem?_cons_succ, ne_eq, not_false_eq_true, List.nil_append, List.append_nil, List.cons_append, List.contains_cons, List.contains_nil, Nat.reduceBEq, Bool.or_false, Bool.false_or, Bool.true_or, Bool.or_true, hbg, e1, CloO]
    exact ⟨_, _, rfl, hr2, hk2⟩
  | ok x k =>
    rw [hF] at ho
    obtain ⟨v, h5, rfl, hr2, hk2, rfl, hx⟩ := ho
    have hg5 : h5.get vi = .cells [z] 25 .own := by rw [hk2.get _ hv (by simpa using h1)]; exact hvg
    simp (discharger := first | assumption | omega | (simp only [next_push, next_set] <;> omega) | (simp only [List.length_cons, List.length_nil] <;> omega) | decide) only [go_sem, reduceIte, Nat.reduceEqDiff, Nat.reduceAdd, Nat.reduceMul, Nat.reduceSub, Int.reduceLE, Int.reduceLT, Int.reduceNe, Int.reduceToNat, Int.reducePow, Int.reduceAdd, Int.reduceMul, reduceCtorEq, true_and, and_true, cond_true, cond_false, List.map_cons, List.map_nil, Option.map_some, Option.map_none, List.getElem?_cons_zero, List.getElem?_cons_succ, ne_eq, not_false_eq_true, List.nil_append, List.append_nil, List.cons_append, List.contains_cons, List.contains_nil, Nat.reduceBEq, Bool.or_false, Bool.false_or, Bool.true_or, Bool.or_true, hbg, e1, hg5, CloO, aResults_nil (F := Try.f74) rfl, List.set_cons_zero]
    exact ⟨_, rfl, hr2.set_other h1 h2, keep_set_in (hk2.mono (by simp)) (by simp), _, get_set_same, rfl, hx⟩

theorem uvarint_con {ri : Nat} {bv : AV} {bs : List UInt8} {at_ : Nat} {h : AH} (hr : RD h ri bv bs at_ 0) (hl : bs.length ≤ 140737488355328) :
    Con E0 sp0 100000 6 25 [.ptr ri 0] h (MeO ri bv bs at_ h (numF 0 0 (bs.drop at_)) (.int .u64 0) fun x v _ => v = .int .u64 (x : Nat) ∧ x < 18446744073709551616) := by
  refine Con.of_body rfl fn25 fun n hn => ⟨rfl, ?_⟩
  conv in slim _ _ _ => cbv
  have hlt := hr.lt
  have hbl := hr.bv_lt
  have k1 : Keep h ((h.push (.cells [.ptr ri 0] 40 .own)).push (.cells [.int .u64 0] 25 .own)) [] := ((Keep.push h _).trans (Keep.push _ _)).mono (by simp)
  obtain ⟨h', v, e1, hg1, hk1, hv1, hm⟩ := reading_me (d := 4) (n := n) (vi := h.next + 1) (T := 25) (z := .int .u64 0) (V := fun (x : Nat) v _ => v = .int .u64 (x : Nat) ∧ x < 18446744073709551616) (F := numF 0 0 (bs.drop at_)) hr k1 (g := 74) (caps := [.ptr h.next 0, .ptr (h.next + 1) 0]) (by rw [fn74]; rfl) (by omega) (by simp) (get_push_new (by simp))
    (fun r1 q1 => uvclo_con r1 hl (by simp [rd_next]; omega) (by rw [q1.get _ (by simp; omega) (by simp), get_push_old (by simp), get_push_new rfl]) (by simp [rd_next]) (by rw [q1.get _ (by simp) (by simp), get_push_new (by simp)]) (by omega) (fun j hj => by have := hbl j hj; omega) (by omega)) (by omega)
  simp (discharger := first | assumption | omega | (simp only [next_push, next_set] <;> omega) | (simp only [List.length_cons, List.length_nil] <;> omega) | decide) only [go_sem, reduceIte, Nat.reduceEqDiff, Nat.reduceAdd, Nat.reduceMul, Nat.reduceSub, Int.reduceLE, Int.reduceLT, Int.reduceNe, Int.reduceToNat, Int.reducePow, Int.reduceAdd, Int.reduceMul, reduceCtorEq, true_and, and_true, cond_true, cond_false, List.map_cons, List.map_nil, Option.map_some, Option.map_none, List.getElem?_cons_zero, List.getElem?_cons_succ, ne_eq, not_false_eq_true, List.nil_append, List.append_nil, List.cons_append, List.contains_cons, List.contains_nil, Nat.reduceBEq, Bool.or_false, Bool.false_or, Bool.true_or, Bool.or_true, get_push_new, get_push_old, e1, hg1]
  cases hF : numF 0 0 (bs.drop at_) with
  | ok x k =>
    rw [hF] at hm
    obtain ⟨m1, rfl, m2⟩ := hm
    simp (discharger := first | assumption | omega | (simp only [next_push, next_set] <;> omega) | (simp only [List.length_cons, List.length_nil] <;> omega) | decide) only [go_sem, reduceIte, Nat.reduceEqDiff, Nat.reduceAdd, Nat.reduceMul, Nat.reduceSub, Int.reduceLE, Int.reduceLT, Int.reduceNe, Int.reduceToNat, Int.reducePow, Int.reduceAdd, Int.reduceMul, reduceCtorEq, true_and, and_true, cond_true, cond_false, List.map_cons, List.map_nil, Option.map_some, Option.map_none, List.getElem?_cons_zero, List.getElem?_cons_succ, ne_eq, not_false_eq_true, List.nil_append, List.append_nil, List.cons_append, List.contains_cons, List.contains_nil, Nat.reduceBEq, Bool.or_false, Bool.false_or, Bool.true_or, Bool.or_true, hg1, get_set_same, List.set_cons_zero, aResults_cell (F := Try.f25) rfl, MeO]
    exact ⟨_, _, rfl, m1.set_other (by omega) (fun j hj => by have := hbl j hj; omega), keep_set hk1 (by omega), rfl, m2⟩
  | bad e =>
    rw [hF] at hm
    obtain ⟨rfl, m1⟩ := hm
    simp (discharger := first | assumption | omega | (simp only [next_push, next_set] <;> omega) | (simp only [List.length_cons, List.length_nil] <;> omega) | decide) only [go_sem, reduceIte, Nat.reduceEqDiff, Nat.reduceAdd, Nat.reduceMul, Nat.reduceSub, Int.reduceLE, Int.reduceLT, Int.reduceNe, Int.reduceToNat, Int.reducePow, Int.reduceAdd, Int.reduceMul, reduceCtorEq, true_and, and_true, cond_true, cond_false, List.map_cons, List.map_nil, Option.map_some, Option.map_none, List.getElem?_cons_zero, List.getElem?_cons_succ, ne_eq, not_false_eq_true, List.nil_append, List.append_nil, List.cons_append, List.contains_cons, List.contains_nil, Nat.reduceBEq, Bool.or_false, Bool.false_or, Bool.true_or, Bool.or_true, hg1, get_set_same, List.set_cons_zero, aResults_cell (F := Try.f25) rfl, MeO]
    exact ⟨_, rfl, m1.set_other (by omega) (fun j hj => by have := hbl j hj; omega), keep_set hk1 (by omega)⟩
end Go.Proofs.Yteblojfcalgoeaa

/- Seat 1: codec's Zag and Zig. Conditions: none. -/
namespace Go.Proofs.Yteblojfcalgoeaa
open Go Go.RowKit
set_option maxRecDepth 100000
set_option linter.unusedSimpArgs false
set_option linter.unusedVariables false

/-- What a folded number was. -/
def zagI (x : Nat) : Int := if x % 2 = 0 then ((x / 2 : Nat) : Int) else -((x / 2 : Nat) : Int) - 1
theorem zagI_zigN (y : Int) : zagI (zigN y) = y := by
  unfold zagI zigN
  split <;> split <;> omega
theorem zigN_zagI (x : Nat) : zigN (zagI x) = x := by
  unfold zagI zigN
  split <;> split <;> omega
theorem zagI_lt {x : Nat} (h : x < 18446744073709551616) : -9223372036854775808 ≤ zagI x ∧ zagI x < 9223372036854775808 := by
  unfold zagI
  split <;> omega
theorem zag_eq (x : Nat) (h : x < 18446744073709551616) : xorI .i64 ((x / 2 : Nat) : Int) (-((x % 2 : Nat) : Int)) = zagI x := by
  have hx : ∀ b : Int, xorI .i64 ((x / 2 : Nat) : Int) b = IntKind.i64.wrap ((BitVec.ofInt 64 ((x / 2 : Nat) : Int) ^^^ BitVec.ofInt 64 b).toNat) := fun b => rfl
  rw [hx]
  unfold zagI
  by_cases h2 : x % 2 = 0
  · rw [if_pos h2, h2, show (-((0 : Nat) : Int)) = 0 from rfl, xor_zero, IntKind.wrap_i64]
    omega
  · rw [if_neg h2, show x % 2 = 1 by omega, show (-((1 : Nat) : Int)) = -1 from rfl, xor_ones, IntKind.wrap_i64]
    omega
theorem fdiv2 (x : Nat) : (x : Int).fdiv 2 = ((x / 2 : Nat) : Int) := by
  have := shr_nat x 1
  simpa using this
theorem and1 (x : Nat) (h : x < 18446744073709551616) : andI .u64 (x : Int) 1 = ((x % 2 : Nat) : Int) := by
  have := and_u64 x 1 h (by decide)
  rw [Nat.and_one_is_mod] at this
  exact this
theorem neg1 (x : Nat) : IntKind.i64.wrap (0 - ((x % 2 : Nat) : Int)) = -((x % 2 : Nat) : Int) := by
  rw [wrap_i64 (by omega)]; omega
theorem pow_1 : (2 : Int) ^ min 1 64 = 2 := rfl

theorem zag64_con (x : Nat) (hx : x < 18446744073709551616) (h : AH) :
    Con E0 sp0 100000 1 34 [.int .u64 x] h fun o => o = .ret (.tup [.int .i64 (zagI x), .bool true]) h := by
  refine Con.of_body rfl fn34 fun n _ => ⟨rfl, ?_⟩
  conv in slim _ _ _ => cbv
  simp only [go_sem, reduceIte, Nat.reduceEqDiff, Nat.reduceAdd, Nat.reduceMul, Nat.reduceSub, Int.reduceLE, Int.reduceLT, Int.reduceNe, Int.reduceToNat, Int.reducePow, Int.reduceAdd, Int.reduceMul, reduceCtorEq, true_and, and_true, cond_true, cond_false, List.map_cons, List.map_nil, Option.map_some, Option.map_none, List.getElem?_cons_zero, List.getElem?_cons_succ, ne_eq, not_false_eq_true, List.nil_append, List.append_nil, List.cons_append, List.contains_cons, List.contains_nil, Nat.reduceBEq, Bool.or_false, Bool.false_or, Bool.true_or, Bool.or_true, pow_1, fdiv2, w_i64_in (x / 2) (by omega), and1 x hx, w_i64_in (x % 2) (by omega), neg1, zag_eq x hx, aResults_two (F := Try.f34) rfl]

theorem w_i8 (n : Int) : IntKind.i8.wrap n = if n % 256 < 128 then n % 256 else n % 256 - 256 := by
  rw [IntKind.wrap]
  simp [IntKind.bits, IntKind.signed]
  split <;> split <;> omega
theorem w_i8_in {n : Int} (h : -128 ≤ n ∧ n < 128) : IntKind.i8.wrap n = n := by
  rw [w_i8]; split <;> omega
theorem w_i8_rng (n : Int) : -128 ≤ IntKind.i8.wrap n ∧ IntKind.i8.wrap n < 128 := by
  rw [w_i8]; split <;> omega
theorem zag8_in (x : Nat) (hx : x < 18446744073709551616) (hz : -128 ≤ zagI x ∧ zagI x < 128) (h : AH) :
    Con E0 sp0 100000 1 33 [.int .u64 x] h fun o => o = .ret (.tup [.int .i8 (zagI x), .bool true]) h := by
  refine Con.of_body rfl fn33 fun n _ => ⟨rfl, ?_⟩
  conv in slim _ _ _ => cbv
  have e1 : IntKind.i64.wrap (zagI x) = zagI x := wrap_i64 (zagI_lt hx)
  simp only [go_sem, reduceIte, Nat.reduceEqDiff, Nat.reduceAdd, Nat.reduceMul, Nat.reduceSub, Int.reduceLE, Int.reduceLT, Int.reduceNe, Int.reduceToNat, Int.reducePow, Int.reduceAdd, Int.reduceMul, reduceCtorEq, true_and, and_true, cond_true, cond_false, List.map_cons, List.map_nil, Option.map_some, Option.map_none, List.getElem?_cons_zero, List.getElem?_cons_succ, ne_eq, not_false_eq_true, List.nil_append, List.append_nil, List.cons_append, List.contains_cons, List.contains_nil, Nat.reduceBEq, Bool.or_false, Bool.false_or, Bool.true_or, Bool.or_true, pow_1, fdiv2, w_i64_in (x / 2) (by omega), and1 x hx, w_i64_in (x % 2) (by omega), neg1, zag_eq x hx, w_i8_in hz, e1, aResults_two (F := Try.f33) rfl]
theorem zag8_out (x : Nat) (hx : x < 18446744073709551616) (hz : ¬ (-128 ≤ zagI x ∧ zagI x < 128)) (h : AH) :
    Con E0 sp0 100000 1 33 [.int .u64 x] h fun o => o = .ret (.tup [.int .i8 0, .bool false]) h := by
  refine Con.of_body rfl fn33 fun n _ => ⟨rfl, ?_⟩
  conv in slim _ _ _ => cbv
  have hr := w_i8_rng (zagI x)
  have e1 : IntKind.i64.wrap (IntKind.i8.wrap (zagI x)) = IntKind.i8.wrap (zagI x) := wrap_i64 (by omega)
  have e2 : (IntKind.i8.wrap (zagI x) != zagI x) = true := by
    simp; intro e; rw [e] at hr; exact hz hr
  simp only [go_sem, reduceIte, Nat.reduceEqDiff, Nat.reduceAdd, Nat.reduceMul, Nat.reduceSub, Int.reduceLE, Int.reduceLT, Int.reduceNe, Int.reduceToNat, Int.reducePow, Int.reduceAdd, Int.reduceMul, reduceCtorEq, true_and, and_true, cond_true, cond_false, List.map_cons, List.map_nil, Option.map_some, Option.map_none, List.getElem?_cons_zero, List.getElem?_cons_succ, ne_eq, not_false_eq_true, List.nil_append, List.append_nil, List.cons_append, List.contains_cons, List.contains_nil, Nat.reduceBEq, Bool.or_false, Bool.false_or, Bool.true_or, Bool.or_true, pow_1, fdiv2, w_i64_in (x / 2) (by omega), and1 x hx, w_i64_in (x % 2) (by omega), neg1, zag_eq x hx, e1, e2, aResults_two (F := Try.f33) rfl]
theorem zig8_con (x : Int) (h1 : -128 ≤ x) (h2 : x < 128) (h : AH) :
    Con E0 sp0 100000 1 35 [.int .i8 x] h fun o => o = .ret (.int .u64 (zigN x)) h := by
  refine Con.of_body rfl fn35 fun n _ => ⟨rfl, ?_⟩
  conv in slim _ _ _ => cbv
  have e1 : IntKind.i64.wrap x = x := wrap_i64 (by omega)
  have m2 : (2 : Int) ^ min 63 64 = 9223372036854775808 := rfl
  simp only [go_sem, reduceIte, Nat.reduceEqDiff, Nat.reduceAdd, Nat.reduceMul, Nat.reduceSub, Int.reduceLE, Int.reduceLT, Int.reduceNe, Int.reduceToNat, Int.reducePow, Int.reduceAdd, Int.reduceMul, reduceCtorEq, true_and, and_true, cond_true, cond_false, List.map_cons, List.map_nil, Option.map_some, Option.map_none, List.getElem?_cons_zero, List.getElem?_cons_succ, ne_eq, not_false_eq_true, List.nil_append, List.append_nil, List.cons_append, List.contains_cons, List.contains_nil, Nat.reduceBEq, Bool.or_false, Bool.false_or, Bool.true_or, Bool.or_true, pow_1, m2, e1, aResults_one (F := Try.f35) rfl]
  rw [← zig_eq x (by omega) (by omega)]

theorem vclo_con {ri bi vi : Nat} {bv : AV} {bs : List UInt8} {at_ : Nat} {H : AH} (hr : RD H ri bv bs at_ 0) (hl : bs.length ≤ 140737488355328) (hb : bi < H.next) (hbg : H.get bi = .cells [.ptr ri 0] 40 .own) (hv : vi < H.next) {z : AV} (hvg : H.get vi = .cells [z] 2 .own) (h1 : vi ≠ ri) (h2 : ∀ j ∈ ids bv, j ≠ vi) (h3 : bi ≠ ri) :
    Con E0 sp0 100000 4 76 [.ptr bi 0, .ptr vi 0] H (CloO ri bv bs at_ [vi] H (numF 0 0 (bs.drop at_)) fun x h2 => ∃ v, h2.get vi = .cells [v] 2 .own ∧ v = .int .i64 (zagI x) ∧ x < 18446744073709551616) := by
  refine Con.of_body rfl fn76 fun n hn => ⟨rfl, ?_⟩
  conv in slim _ _ _ => cbv
  obtain ⟨out, e1, ho⟩ := number_con hr hl n hn
  cases hF : numF 0 0 (bs.drop at_) with
  | bad e =>
    rw [hF] at ho
    obtain ⟨h2, at2, rfl, hr2, hk2⟩ := ho
    simp only [go_sem, reduceIte, Nat.reduceEqDiff, Nat.reduceAdd, Nat.reduceMul, Nat.reduceSub, Int.reduceLE, Int.reduceLT, Int.reduceNe, Int.reduceToNat, Int.reducePow, Int.reduceAdd, Int.reduceMul, reduceCtorEq, true_and, and_true, cond_true, cond_false, List.map_cons, List.map_nil, Option.map_some, Option.map_none, List.getElem?_cons_zero, List.getElem?_cons_succ, ne_eq, not_false_eq_true, List.nil_append, List.append_nil, List.cons_append, List.contains_cons, List.contains_nil, Nat.reduceBEq, Bool.or_false, Bool.false_or, Bool.true_or, Bool.or_true, hbg, e1, CloO]
    exact ⟨_, _, rfl, hr2, hk2⟩
  | ok x k =>
    rw [hF] at ho
    obtain ⟨v, h5, rfl, hr2, hk2, rfl, hx⟩ := ho
    have hg5 : h5.get vi = .cells [z] 2 .own := by rw [hk2.get _ hv (by simpa using h1)]; exact hvg
    obtain ⟨_, e2, rfl⟩ := zag64_con x hx h5 n (by omega)
    simp (discharger := first | assumption | omega | (simp only [next_push, next_set] <;> omega) | (simp only [List.length_cons, List.length_nil] <;> omega) | decide) only [go_sem, reduceIte, Nat.reduceEqDiff, Nat.reduceAdd, Nat.reduceMul, Nat.reduceSub, Int.reduceLE, Int.reduceLT, Int.reduceNe, Int.reduceToNat, Int.reducePow, Int.reduceAdd, Int.reduceMul, reduceCtorEq, true_and, and_true, cond_true, cond_false, List.map_cons, List.map_nil, Option.map_some, Option.map_none, List.getElem?_cons_zero, List.getElem?_cons_succ, ne_eq, not_false_eq_true, List.nil_append, List.append_nil, List.cons_append, List.contains_cons, List.contains_nil, Nat.reduceBEq, Bool.or_false, Bool.false_or, Bool.true_or, Bool.or_true, hbg, e1, e2, hg5, CloO, aResults_nil (F := Try.f76) rfl, List.set_cons_zero]
    exact ⟨_, rfl, hr2.set_other h1 h2, keep_set_in (hk2.mono (by simp)) (by simp), _, get_set_same, rfl, hx⟩

theorem varint_con {ri : Nat} {bv : AV} {bs : List UInt8} {at_ : Nat} {h : AH} (hr : RD h ri bv bs at_ 0) (hl : bs.length ≤ 140737488355328) :
    Con E0 sp0 100000 6 26 [.ptr ri 0] h (MeO ri bv bs at_ h (numF 0 0 (bs.drop at_)) (.int .i64 0) fun x v _ => v = .int .i64 (zagI x) ∧ x < 18446744073709551616) := by
  refine Con.of_body rfl fn26 fun n hn => ⟨rfl, ?_⟩
  conv in slim _ _ _ => cbv
  have hlt := hr.lt
  have hbl := hr.bv_lt
  have k1 : Keep h ((h.push (.cells [.ptr ri 0] 40 .own)).push (.cells [.int .i64 0] 2 .own)) [] := ((Keep.push h _).trans (Keep.push _ _)).mono (by simp)
  obtain ⟨h', v, e1, hg1, hk1, hv1, hm⟩ := reading_me (d := 4) (n := n) (vi := h.next + 1) (T := 2) (z := .int .i64 0) (V := fun (x : Nat) v _ => v = .int .i64 (zagI x) ∧ x < 18446744073709551616) (F := numF 0 0 (bs.drop at_)) hr k1 (g := 76) (caps := [.ptr h.next 0, .ptr (h.next + 1) 0]) (by rw [fn76]; rfl) (by omega) (by simp) (get_push_new (by simp))
    (fun r1 q1 => vclo_con r1 hl (by simp [rd_next]; omega) (by rw [q1.get _ (by simp; omega) (by simp), get_push_old (by simp), get_push_new rfl]) (by simp [rd_next]) (by rw [q1.get _ (by simp) (by simp), get_push_new (by simp)]) (by omega) (fun j hj => by have := hbl j hj; omega) (by omega)) (by omega)
  simp (discharger := first | assumption | omega | (simp only [next_push, next_set] <;> omega) | (simp only [List.length_cons, List.length_nil] <;> omega) | decide) only [go_sem, reduceIte, Nat.reduceEqDiff, Nat.reduceAdd, Nat.reduceMul, Nat.reduceSub, Int.reduceLE, Int.reduceLT, Int.reduceNe, Int.reduceToNat, Int.reducePow, Int.reduceAdd, Int.reduceMul, reduceCtorEq, true_and, and_true, cond_true, cond_false, List.map_cons, List.map_nil, Option.map_some, Option.map_none, List.getElem?_cons_zero, List.getElem?_cons_succ, ne_eq, not_false_eq_true, List.nil_append, List.append_nil, List.cons_append, List.contains_cons, List.contains_nil, Nat.reduceBEq, Bool.or_false, Bool.false_or, Bool.true_or, Bool.or_true, get_push_new, get_push_old, e1, hg1]
  cases hF : numF 0 0 (bs.drop at_) with
  | ok x k =>
    rw [hF] at hm
    obtain ⟨m1, rfl, m2⟩ := hm
    simp (discharger := first | assumption | omega | (simp only [next_push, next_set] <;> omega) | (simp only [List.length_cons, List.length_nil] <;> omega) | decide) only [go_sem, reduceIte, Nat.reduceEqDiff, Nat.reduceAdd, Nat.reduceMul, Nat.reduceSub, Int.reduceLE, Int.reduceLT, Int.reduceNe, Int.reduceToNat, Int.reducePow, Int.reduceAdd, Int.reduceMul, reduceCtorEq, true_and, and_true, cond_true, cond_false, List.map_cons, List.map_nil, Option.map_some, Option.map_none, List.getElem?_cons_zero, List.getElem?_cons_succ, ne_eq, not_false_eq_true, List.nil_append, List.append_nil, List.cons_append, List.contains_cons, List.contains_nil, Nat.reduceBEq, Bool.or_false, Bool.false_or, Bool.true_or, Bool.or_true, hg1, get_set_same, List.set_cons_zero, aResults_cell (F := Try.f26) rfl, MeO]
    exact ⟨_, _, rfl, m1.set_other (by omega) (fun j hj => by have := hbl j hj; omega), keep_set hk1 (by omega), rfl, m2⟩
  | bad e =>
    rw [hF] at hm
    obtain ⟨rfl, m1⟩ := hm
    simp (discharger := first | assumption | omega | (simp only [next_push, next_set] <;> omega) | (simp only [List.length_cons, List.length_nil] <;> omega) | decide) only [go_sem, reduceIte, Nat.reduceEqDiff, Nat.reduceAdd, Nat.reduceMul, Nat.reduceSub, Int.reduceLE, Int.reduceLT, Int.reduceNe, Int.reduceToNat, Int.reducePow, Int.reduceAdd, Int.reduceMul, reduceCtorEq, true_and, and_true, cond_true, cond_false, List.map_cons, List.map_nil, Option.map_some, Option.map_none, List.getElem?_cons_zero, List.getElem?_cons_succ, ne_eq, not_false_eq_true, List.nil_append, List.append_nil, List.cons_append, List.contains_cons, List.contains_nil, Nat.reduceBEq, Bool.or_false, Bool.false_or, Bool.true_or, Bool.or_true, hg1, get_set_same, List.set_cons_zero, aResults_cell (F := Try.f26) rfl, MeO]
    exact ⟨_, rfl, m1.set_other (by omega) (fun j hj => by have := hbl j hj; omega), keep_set hk1 (by omega)⟩
end Go.Proofs.Yteblojfcalgoeaa

/- Seat 1: codec's Open, Fault, Left, End, Block, Take. Conditions: none. -/
namespace Go.Proofs.Yteblojfcalgoeaa
open Go Go.RowKit
set_option maxRecDepth 100000
set_option linter.unusedSimpArgs false
set_option linter.unusedVariables false

section
variable {ri : Nat} {bv : AV} {bs : List UInt8} {at_ : Nat} {ft : Int} {h : AH}
theorem fault_con (hr : RD h ri bv bs at_ ft) : Con E0 sp0 100000 1 29 [.ptr ri 0] h fun o => o = .ret (.int .i64 ft) h := by
  refine Con.of_body rfl fn29 fun n _ => ⟨rfl, ?_⟩
  conv in slim _ _ _ => cbv
  simp only [go_sem, reduceIte, Nat.reduceEqDiff, Nat.reduceAdd, Nat.reduceMul, Nat.reduceSub, Int.reduceLE, Int.reduceLT, Int.reduceNe, Int.reduceToNat, Int.reducePow, Int.reduceAdd, Int.reduceMul, reduceCtorEq, true_and, and_true, cond_true, cond_false, List.map_cons, List.map_nil, Option.map_some, Option.map_none, List.getElem?_cons_zero, List.getElem?_cons_succ, ne_eq, not_false_eq_true, List.nil_append, List.append_nil, List.cons_append, List.contains_cons, List.contains_nil, Nat.reduceBEq, Bool.or_false, Bool.false_or, Bool.true_or, Bool.or_true, hr.get, aResults_one (F := Try.f29) rfl]
theorem left_con (hr : RD h ri bv bs at_ ft) (hl : bs.length ≤ 140737488355328) : Con E0 sp0 100000 1 31 [.ptr ri 0] h fun o => o = .ret (.int .i64 ((bs.length - at_ : Nat) : Int)) h := by
  refine Con.of_body rfl fn31 fun n _ => ⟨rfl, ?_⟩
  conv in slim _ _ _ => cbv
  have hle := hr.le
  have e1 : IntKind.i64.wrap ((bs.length : Int) - (at_ : Int)) = ((bs.length - at_ : Nat) : Int) := by rw [wrap_i64 (by omega)]; omega
  simp only [go_sem, reduceIte, Nat.reduceEqDiff, Nat.reduceAdd, Nat.reduceMul, Nat.reduceSub, Int.reduceLE, Int.reduceLT, Int.reduceNe, Int.reduceToNat, Int.reducePow, Int.reduceAdd, Int.reduceMul, reduceCtorEq, true_and, and_true, cond_true, cond_false, List.map_cons, List.map_nil, Option.map_some, Option.map_none, List.getElem?_cons_zero, List.getElem?_cons_succ, ne_eq, not_false_eq_true, List.nil_append, List.append_nil, List.cons_append, List.contains_cons, List.contains_nil, Nat.reduceBEq, Bool.or_false, Bool.false_or, Bool.true_or, Bool.or_true, hr.get, len_bytes byte24 hr.hbs, e1, aResults_one (F := Try.f31) rfl]
theorem end_con (hr : RD h ri bv bs at_ ft) (hl : bs.length ≤ 140737488355328) : Con E0 sp0 100000 2 30 [.ptr ri 0] h fun o => o = .ret (.int .i64 (if ft = 0 then (if bs.length - at_ = 0 then 0 else 72) else ft)) h := by
  refine Con.of_body rfl fn30 fun n hn => ⟨rfl, ?_⟩
  conv in slim _ _ _ => cbv
  obtain ⟨_, e1, rfl⟩ := fault_con hr n (by omega)
  obtain ⟨_, e2, rfl⟩ := left_con hr hl n (by omega)
  by_cases hf : ft = 0
  · have d1 : (ft != 0) = false := by simp [hf]
    by_cases hz : bs.length - at_ = 0
    · have d2 : (((bs.length - at_ : Nat) : Int) == 0) = true := by simp [hz]
      simp only [go_sem, reduceIte, Nat.reduceEqDiff, Nat.reduceAdd, Nat.reduceMul, Nat.reduceSub, Int.reduceLE, Int.reduceLT, Int.reduceNe, Int.reduceToNat, Int.reducePow, Int.reduceAdd, Int.reduceMul, reduceCtorEq, true_and, and_true, cond_true, cond_false, List.map_cons, List.map_nil, Option.map_some, Option.map_none, List.getElem?_cons_zero, List.getElem?_cons_succ, ne_eq, not_false_eq_true, List.nil_append, List.append_nil, List.cons_append, List.contains_cons, List.contains_nil, Nat.reduceBEq, Bool.or_false, Bool.false_or, Bool.true_or, Bool.or_true, e1, e2, d1, d2, aResults_one (F := Try.f30) rfl, if_pos hf, if_pos hz]
      rw [hf]
    · have d2 : (((bs.length - at_ : Nat) : Int) == 0) = false := by simp; omega
      simp only [go_sem, reduceIte, Nat.reduceEqDiff, Nat.reduceAdd, Nat.reduceMul, Nat.reduceSub, Int.reduceLE, Int.reduceLT, Int.reduceNe, Int.reduceToNat, Int.reducePow, Int.reduceAdd, Int.reduceMul, reduceCtorEq, true_and, and_true, cond_true, cond_false, List.map_cons, List.map_nil, Option.map_some, Option.map_none, List.getElem?_cons_zero, List.getElem?_cons_succ, ne_eq, not_false_eq_true, List.nil_append, List.append_nil, List.cons_append, List.contains_cons, List.contains_nil, Nat.reduceBEq, Bool.or_false, Bool.false_or, Bool.true_or, Bool.or_true, e1, e2, d1, d2, aResults_one (F := Try.f30) rfl, if_pos hf, if_neg hz]
  · have d1 : (ft != 0) = true := by simp [hf]
    simp only [go_sem, reduceIte, Nat.reduceEqDiff, Nat.reduceAdd, Nat.reduceMul, Nat.reduceSub, Int.reduceLE, Int.reduceLT, Int.reduceNe, Int.reduceToNat, Int.reducePow, Int.reduceAdd, Int.reduceMul, reduceCtorEq, true_and, and_true, cond_true, cond_false, List.map_cons, List.map_nil, Option.map_some, Option.map_none, List.getElem?_cons_zero, List.getElem?_cons_succ, ne_eq, not_false_eq_true, List.nil_append, List.append_nil, List.cons_append, List.contains_cons, List.contains_nil, Nat.reduceBEq, Bool.or_false, Bool.false_or, Bool.true_or, Bool.or_true, e1, e2, d1, aResults_one (F := Try.f30) rfl, if_neg hf]
end

theorem build117 {v : AV} (hv : v.atom = true) : aBuild E0 117 [(0, v)] = some (.agg [v, .int .i64 0, .int .i64 0]) := by
  cases v <;> first | (simp [AV.atom] at hv; done) | kernel_rfl
theorem box117 {h : AH} {v : AV} (hv : v.atom = true) : boxV 117 (.agg [v, .int .i64 0, .int .i64 0]) h = some (.val (.ptr h.next 0) (h.push (.cells [v, .int .i64 0, .int .i64 0] 117 .own))) := by
  cases v <;> first | (simp [AV.atom] at hv; done) | rfl

theorem open_con (v : AV) (bs : List UInt8) (h : AH) (hb : BS h v bs) (hn : bs.length ≤ 140737488355328) :
    Con E0 sp0 100000 2 20 [v] h fun o => ∃ ri h' bv, o = .ret (.ptr ri 0) h' ∧ RD h' ri bv bs 0 0 ∧ Keep h h' [] ∧ h.next ≤ ri ∧ ∀ j ∈ ids bv, h.next ≤ j := by
  refine Con.of_body rfl fn20 fun n hn2 => ⟨rfl, ?_⟩
  conv in slim _ _ _ => cbv
  obtain ⟨_, e1, v1, h1, rfl, ho1, hg1⟩ := clone_con v bs h hb hn n (by omega)
  have ha : v1.atom = true := ho1.gen.atom
  have hk : Keep h h1 [] := hg1.keep
  have hlt := ho1.lt
  simp only [go_sem, reduceIte, Nat.reduceEqDiff, Nat.reduceAdd, Nat.reduceMul, Nat.reduceSub, Int.reduceLE, Int.reduceLT, Int.reduceNe, Int.reduceToNat, Int.reducePow, Int.reduceAdd, Int.reduceMul, reduceCtorEq, true_and, and_true, cond_true, cond_false, List.map_cons, List.map_nil, Option.map_some, Option.map_none, List.getElem?_cons_zero, List.getElem?_cons_succ, ne_eq, not_false_eq_true, List.nil_append, List.append_nil, List.cons_append, List.contains_cons, List.contains_nil, Nat.reduceBEq, Bool.or_false, Bool.false_or, Bool.true_or, Bool.or_true, e1, build117 ha, box117 ha, aResults_one (F := Try.f20) rfl]
  refine ⟨h1.next, _, v1, rfl, ⟨by simp, get_push_new rfl, ho1.bs.keep (Keep.push _ _) (by simp), fun hx => by have := hlt _ hx; omega, by omega⟩, (hk.trans (Keep.push _ _)).mono (by simp), hk.next, fun j hj => ?_⟩
  rcases hg1.fresh j hj with h2 | h2
  · simp [ids] at h2
  · exact h2

theorem store_atom24 {v z : AV} {t' : TypeId} (ha : v.atom = true) : storeO E0 24 0 v (.cells [z] t' .own) = some (.cells [v] t' .own) := storeO_atom (by kernel_rfl) ha (by decide) (by simp)

theorem bclo_con {ri bi mi vi : Nat} {bv : AV} {bs : List UInt8} {at_ : Nat} {H : AH} (hr : RD H ri bv bs at_ 0) (hl : bs.length ≤ 140737488355328) (most : Nat) (hm : most ≤ 1000000) (hbg : H.get bi = .cells [.ptr ri 0] 40 .own) (hmg : H.get mi = .cells [.int .i64 (most : Nat)] 3 .own) (hv : vi < H.next) {z : AV} (hvg : H.get vi = .cells [z] 24 .own) (h1 : vi ≠ ri) (h2 : ∀ j ∈ ids bv, j ≠ vi) :
    Con E0 sp0 100000 5 77 [.ptr mi 0, .ptr bi 0, .ptr vi 0] H (CloO ri bv bs at_ [vi] H (blockF most (bs.drop at_)) fun x h2 => ∃ v, h2.get vi = .cells [v] 24 .own ∧ BS h2 v x ∧ v.atom = true ∧ vi ∉ ids v) := by
  refine Con.of_body rfl fn77 fun n hn => ⟨rfl, ?_⟩
  conv in slim _ _ _ => cbv
  obtain ⟨out, e1, ho⟩ := block_con hr hl most hm n hn
  obtain ⟨_, e0, rfl⟩ := must_t 2 H n (by omega)
  have d0 : decide ((0 : Int) ≤ (most : Int)) = true := decide_eq_true (by omega)
  cases hF : blockF most (bs.drop at_) with
  | bad e =>
    rw [hF] at ho
    obtain ⟨h2, at2, rfl, hr2, hk2⟩ := ho
    simp only [go_sem, reduceIte, Nat.reduceEqDiff, Nat.reduceAdd, Nat.reduceMul, Nat.reduceSub, Int.reduceLE, Int.reduceLT, Int.reduceNe, Int.reduceToNat, Int.reducePow, Int.reduceAdd, Int.reduceMul, reduceCtorEq, true_and, and_true, cond_true, cond_false, List.map_cons, List.map_nil, Option.map_some, Option.map_none, List.getElem?_cons_zero, List.getElem?_cons_succ, ne_eq, not_false_eq_true, List.nil_append, List.append_nil, List.cons_append, List.contains_cons, List.contains_nil, Nat.reduceBEq, Bool.or_false, Bool.false_or, Bool.true_or, Bool.or_true, hbg, hmg, d0, e0, e1, CloO]
    exact ⟨_, _, rfl, hr2, hk2⟩
  | ok x k =>
    rw [hF] at ho
    obtain ⟨v, h5, rfl, hr2, hk2, hb5, hi5⟩ := ho
    have hxl : x.length ≤ 140737488355328 := by
      unfold blockF at hF
      split at hF
      · split at hF
        · split at hF
          · cases hF; simp; omega
          · cases hF
        · cases hF
      · cases hF
    obtain ⟨_, e2, v6, h6, rfl, ho6, hg6⟩ := clone_con v x h5 hb5 hxl n (by omega)
    have ha : v6.atom = true := ho6.gen.atom
    have k56 : Keep h5 h6 [] := hg6.keep
    have hv5 : vi < h5.next := Nat.lt_of_lt_of_le hv hk2.next
    have hg5 : h6.get vi = .cells [z] 24 .own := by rw [k56.get _ hv5 (by simp), hk2.get _ hv (by simpa using h1)]; exact hvg
    have hni : vi ∉ ids v6 := fun hx => by
      rcases hg6.fresh _ hx with h7 | h7
      · simp [ids] at h7
      · omega
    simp only [go_sem, reduceIte, Nat.reduceEqDiff, Nat.reduceAdd, Nat.reduceMul, Nat.reduceSub, Int.reduceLE, Int.reduceLT, Int.reduceNe, Int.reduceToNat, Int.reducePow, Int.reduceAdd, Int.reduceMul, reduceCtorEq, true_and, and_true, cond_true, cond_false, List.map_cons, List.map_nil, Option.map_some, Option.map_none, List.getElem?_cons_zero, List.getElem?_cons_succ, ne_eq, not_false_eq_true, List.nil_append, List.append_nil, List.cons_append, List.contains_cons, List.contains_nil, Nat.reduceBEq, Bool.or_false, Bool.false_or, Bool.true_or, Bool.or_true, hbg, hmg, d0, e0, e1, e2, hg5, store_atom24 ha, CloO, aResults_nil (F := Try.f77) rfl]
    exact ⟨_, rfl, (hr2.keep k56 (by simp) (by simp)).set_other h1 h2, keep_set_in ((hk2.trans k56).mono (by simp (config := { contextual := true }))) (by simp), _, get_set_same, ho6.bs.keep (Keep.set h6 vi _) (fun i hi hx => hni (by simp at hx; exact hx ▸ hi)), ha, hni⟩

theorem mblock_con {ri : Nat} {bv : AV} {bs : List UInt8} {at_ : Nat} {h : AH} (hr : RD h ri bv bs at_ 0) (hl : bs.length ≤ 140737488355328) (most : Nat) (hm : most ≤ 1000000) :
    Con E0 sp0 100000 7 27 [.ptr ri 0, .int .i64 most] h (MeO ri bv bs at_ h (blockF most (bs.drop at_)) .nils fun x v h2 => BS h2 v x) := by
  refine Con.of_body rfl fn27 fun n hn => ⟨rfl, ?_⟩
  conv in slim _ _ _ => cbv
  have hlt := hr.lt
  have hbl := hr.bv_lt
  have k1 : Keep h (((h.push (.cells [.ptr ri 0] 40 .own)).push (.cells [.int .i64 (most : Nat)] 3 .own)).push (.cells [.nils] 24 .own)) [] := (((Keep.push h _).trans (Keep.push _ _)).trans (Keep.push _ _)).mono (by simp)
  obtain ⟨h', v, e1, hg1, hk1, hv1, hm⟩ := reading_me (d := 5) (n := n) (vi := h.next + 2) (T := 24) (z := .nils) (V := fun (x : List UInt8) v h2 => BS h2 v x ∧ v.atom = true ∧ h.next + 2 ∉ ids v) (F := blockF most (bs.drop at_)) hr k1 (g := 77) (caps := [.ptr (h.next + 1) 0, .ptr h.next 0, .ptr (h.next + 2) 0]) (by rw [fn77]; rfl) (by omega) (by simp) (get_push_new (by simp))
    (fun r1 q1 => bclo_con r1 hl most hm (by rw [q1.get _ (by simp; omega) (by simp), get_push_old (by simp; omega), get_push_old (by simp), get_push_new rfl]) (by rw [q1.get _ (by simp) (by simp), get_push_old (by simp), get_push_new (by simp)]) (by simp [rd_next]) (by rw [q1.get _ (by simp) (by simp), get_push_new (by simp)]) (by omega) (fun j hj => by have := hbl j hj; omega)) (by omega)
  simp (discharger := first | assumption | omega | (simp only [next_push, next_set] <;> omega) | (simp only [List.length_cons, List.length_nil] <;> omega) | decide) only [go_sem, reduceIte, Nat.reduceEqDiff, Nat.reduceAdd, Nat.reduceMul, Nat.reduceSub, Int.reduceLE, Int.reduceLT, Int.reduceNe, Int.reduceToNat, Int.reducePow, Int.reduceAdd, Int.reduceMul, reduceCtorEq, true_and, and_true, cond_true, cond_false, List.map_cons, List.map_nil, Option.map_some, Option.map_none, List.getElem?_cons_zero, List.getElem?_cons_succ, ne_eq, not_false_eq_true, List.nil_append, List.append_nil, List.cons_append, List.contains_cons, List.contains_nil, Nat.reduceBEq, Bool.or_false, Bool.false_or, Bool.true_or, Bool.or_true, get_push_new, get_push_old, e1, hg1]
  cases hF : blockF most (bs.drop at_) with
  | ok x k =>
    rw [hF] at hm
    obtain ⟨m1, m2, m3, m4⟩ := hm
    simp (discharger := first | assumption | omega | (simp only [next_push, next_set] <;> omega) | (simp only [List.length_cons, List.length_nil] <;> omega) | decide) only [go_sem, reduceIte, Nat.reduceEqDiff, Nat.reduceAdd, Nat.reduceMul, Nat.reduceSub, Int.reduceLE, Int.reduceLT, Int.reduceNe, Int.reduceToNat, Int.reducePow, Int.reduceAdd, Int.reduceMul, reduceCtorEq, true_and, and_true, cond_true, cond_false, List.map_cons, List.map_nil, Option.map_some, Option.map_none, List.getElem?_cons_zero, List.getElem?_cons_succ, ne_eq, not_false_eq_true, List.nil_append, List.append_nil, List.cons_append, List.contains_cons, List.contains_nil, Nat.reduceBEq, Bool.or_false, Bool.false_or, Bool.true_or, Bool.or_true, hg1, store_atom24 m3, get_set_same, List.set_cons_zero, aResults_cell (F := Try.f27) rfl, MeO]
    exact ⟨_, _, rfl, m1.set_other (by omega) (fun j hj => by have := hbl j hj; omega), keep_set hk1 (by omega), m2.keep (Keep.set h' _ _) (fun i hi hx => m4 (by simp at hx; exact hx ▸ hi))⟩
  | bad e =>
    rw [hF] at hm
    obtain ⟨rfl, m1⟩ := hm
    simp (discharger := first | assumption | omega | (simp only [next_push, next_set] <;> omega) | (simp only [List.length_cons, List.length_nil] <;> omega) | decide) only [go_sem, reduceIte, Nat.reduceEqDiff, Nat.reduceAdd, Nat.reduceMul, Nat.reduceSub, Int.reduceLE, Int.reduceLT, Int.reduceNe, Int.reduceToNat, Int.reducePow, Int.reduceAdd, Int.reduceMul, reduceCtorEq, true_and, and_true, cond_true, cond_false, List.map_cons, List.map_nil, Option.map_some, Option.map_none, List.getElem?_cons_zero, List.getElem?_cons_succ, ne_eq, not_false_eq_true, List.nil_append, List.append_nil, List.cons_append, List.contains_cons, List.contains_nil, Nat.reduceBEq, Bool.or_false, Bool.false_or, Bool.true_or, Bool.or_true, hg1, store_atom24 (show AV.nils.atom = true from rfl), get_set_same, List.set_cons_zero, aResults_cell (F := Try.f27) rfl, MeO]
    exact ⟨_, rfl, m1.set_other (by omega) (fun j hj => by have := hbl j hj; omega), keep_set hk1 (by omega)⟩
end Go.Proofs.Yteblojfcalgoeaa

/- Seat 1: codec.Take at the four widths. Conditions: none. -/
namespace Go.Proofs.Yteblojfcalgoeaa
open Go Go.RowKit
set_option maxRecDepth 100000
set_option linter.unusedSimpArgs false
set_option linter.unusedVariables false

theorem leV_append : ∀ (a : List UInt8) (c : UInt8), leV (a ++ [c]) = leV a + c.toNat * 2 ^ (8 * a.length)
  | [], c => by simp [leV]
  | x :: a, c => by
      have e : 2 ^ (8 * (x :: a).length) = 256 * 2 ^ (8 * a.length) := by
        rw [List.length_cons, Nat.mul_add, Nat.pow_add]; omega
      rw [List.cons_append, leV, leV, leV_append a c, e, ← Nat.mul_assoc, Nat.mul_comm c.toNat 256, Nat.mul_add, Nat.mul_assoc]
      omega
theorem leV_lt : ∀ a : List UInt8, leV a < 2 ^ (8 * a.length)
  | [] => by simp [leV]
  | x :: a => by
      have e : 2 ^ (8 * (x :: a).length) = 256 * 2 ^ (8 * a.length) := by
        rw [List.length_cons, Nat.mul_add, Nat.pow_add]; omega
      have := leV_lt a
      have hx : x.toNat < 256 := x.toNat_lt
      rw [leV, e]
      omega
theorem pow8_le {k : Nat} (hk : k ≤ 8) : 2 ^ (8 * k) ≤ 18446744073709551616 := Nat.pow_le_pow_right (n := 2) (by decide) (show 8 * k ≤ 64 by omega)
theorem pow_split {i : Nat} : 2 ^ (8 * (i + 1)) = 256 * 2 ^ (8 * i) := by rw [Nat.mul_add, Nat.pow_add]; omega

theorem tkclo8_con {ri bi vi : Nat} {bv : AV} {bs : List UInt8} {at_ : Nat} {H : AH} (hr : RD H ri bv bs at_ 0) (hl : bs.length ≤ 140737488355328) (hb : bi < H.next) (hbr : bi ≠ ri) (hbg : H.get bi = .cells [.ptr ri 0] 40 .own) (hv : vi < H.next) {z : AV} (hvg : H.get vi = .cells [z] 5 .own) (h1 : vi ≠ ri) (h2 : ∀ j ∈ ids bv, j ≠ vi) :
    Con E0 sp0 100000 3 69 [.ptr bi 0, .ptr vi 0] H (CloO ri bv bs at_ [vi] H (fixF 1 (bs.drop at_)) fun x h2 => ∃ v, h2.get vi = .cells [v] 5 .own ∧ v = .int .u8 (x : Nat)) := by
  refine Con.of_body rfl fn69 fun n hn => ⟨rfl, ?_⟩
  obtain ⟨n, rfl⟩ : ∃ k, n = k + 2 := ⟨n - 2, by omega⟩
  conv in slim _ _ _ => cbv
  obtain ⟨out, e1, ho⟩ := take_use hr (k := 1) (by omega) hl (n + 2) (by omega)
  have e1' : aCall E0 sp0 100000 (n + 2) 70 [AV.ptr ri 0, AV.int IntKind.u64 1] H = some out := e1
  clear e1
  have ew : IntKind.u64.wrap 1 = 1 := by decide
  unfold takeF at ho
  unfold fixF
  by_cases hc : 1 ≤ (bs.drop at_).length
  case neg =>
    rw [if_neg hc] at ho ⊢
    obtain ⟨h3, at2, rfl, hr2, hk2⟩ := ho
    have hbg3 : h3.get bi = .cells [.ptr ri 0] 40 .own := by rw [hk2.get _ hb (by simpa using hbr)]; exact hbg
    simp only [go_sem, reduceIte, Nat.reduceEqDiff, Nat.reduceAdd, Nat.reduceMul, Nat.reduceSub, Int.reduceLE, Int.reduceLT, Int.reduceNe, Int.reduceToNat, Int.reducePow, Int.reduceAdd, Int.reduceMul, reduceCtorEq, true_and, and_true, cond_true, cond_false, List.map_cons, List.map_nil, Option.map_some, Option.map_none, List.getElem?_cons_zero, List.getElem?_cons_succ, ne_eq, not_false_eq_true, List.nil_append, List.append_nil, List.cons_append, List.contains_cons, List.contains_nil, Nat.reduceBEq, Bool.or_false, Bool.false_or, Bool.true_or, Bool.or_true, hbg, hbg3, width8, ew, e1', CloO]
    exact ⟨_, _, rfl, hr2, hk2⟩
  case pos =>
    rw [if_pos hc] at ho ⊢
    obtain ⟨v, h5, rfl, hr2, hk2, hb5, hi5⟩ := ho
    generalize hx : (bs.drop at_).take 1 = x at hb5 ⊢
    have hxl : x.length = 1 := by rw [← hx, List.length_take]; omega
    have hlen : qBuiltin E0 h5 .len [v] [24] = some (.int .i64 1) := by rw [len_bytes byte24 hb5, hxl]; rfl
    have hbg5 : h5.get bi = .cells [.ptr ri 0] 40 .own := by rw [hk2.get _ hb (by simpa using hbr)]; exact hbg
    have hg5 : h5.get vi = .cells [z] 5 .own := by rw [hk2.get _ hv (by simpa using h1)]; exact hvg
    simp only [go_sem, reduceIte, Nat.reduceEqDiff, Nat.reduceAdd, Nat.reduceMul, Nat.reduceSub, Int.reduceLE, Int.reduceLT, Int.reduceNe, Int.reduceToNat, Int.reducePow, Int.reduceAdd, Int.reduceMul, reduceCtorEq, true_and, and_true, cond_true, cond_false, List.map_cons, List.map_nil, Option.map_some, Option.map_none, List.getElem?_cons_zero, List.getElem?_cons_succ, ne_eq, not_false_eq_true, List.nil_append, List.append_nil, List.cons_append, List.contains_cons, List.contains_nil, Nat.reduceBEq, Bool.or_false, Bool.false_or, Bool.true_or, Bool.or_true, hbg, hbg5, width8, ew, e1', hlen]
    refine wLoop_inv (fun k fr h6 => ∃ i, k = 1 - i ∧ i ≤ 1 ∧ h6 = h5 ∧ fr 1 = .ptr vi 0 ∧ fr 2 = .int .u64 (leV (x.take i) : Nat) ∧ fr 8 = v ∧ fr 9 = .int .i64 1 ∧ fr 10 = .int .i64 (i : Nat)) ?_ 100000 1 _ _ (by omega) ⟨0, rfl, by omega, rfl, by simp only [go_sem, reduceIte, Nat.reduceEqDiff, Nat.reduceAdd, Nat.reduceMul, Nat.reduceSub, Int.reduceLE, Int.reduceLT, Int.reduceNe, Int.reduceToNat, Int.reducePow, Int.reduceAdd, Int.reduceMul, reduceCtorEq, true_and, and_true, cond_true, cond_false, List.map_cons, List.map_nil, Option.map_some, Option.map_none, List.getElem?_cons_zero, List.getElem?_cons_succ, ne_eq, not_false_eq_true, List.nil_append, List.append_nil, List.cons_append, List.contains_cons, List.contains_nil, Nat.reduceBEq, Bool.or_false, Bool.false_or, Bool.true_or, Bool.or_true], by simp only [go_sem, reduceIte, Nat.reduceEqDiff, Nat.reduceAdd, Nat.reduceMul, Nat.reduceSub, Int.reduceLE, Int.reduceLT, Int.reduceNe, Int.reduceToNat, Int.reducePow, Int.reduceAdd, Int.reduceMul, reduceCtorEq, true_and, and_true, cond_true, cond_false, List.map_cons, List.map_nil, Option.map_some, Option.map_none, List.getElem?_cons_zero, List.getElem?_cons_succ, ne_eq, not_false_eq_true, List.nil_append, List.append_nil, List.cons_append, List.contains_cons, List.contains_nil, Nat.reduceBEq, Bool.or_false, Bool.false_or, Bool.true_or, Bool.or_true]; rfl, by simp only [go_sem, reduceIte, Nat.reduceEqDiff, Nat.reduceAdd, Nat.reduceMul, Nat.reduceSub, Int.reduceLE, Int.reduceLT, Int.reduceNe, Int.reduceToNat, Int.reducePow, Int.reduceAdd, Int.reduceMul, reduceCtorEq, true_and, and_true, cond_true, cond_false, List.map_cons, List.map_nil, Option.map_some, Option.map_none, List.getElem?_cons_zero, List.getElem?_cons_succ, ne_eq, not_false_eq_true, List.nil_append, List.append_nil, List.cons_append, List.contains_cons, List.contains_nil, Nat.reduceBEq, Bool.or_false, Bool.false_or, Bool.true_or, Bool.or_true], by simp only [go_sem, reduceIte, Nat.reduceEqDiff, Nat.reduceAdd, Nat.reduceMul, Nat.reduceSub, Int.reduceLE, Int.reduceLT, Int.reduceNe, Int.reduceToNat, Int.reducePow, Int.reduceAdd, Int.reduceMul, reduceCtorEq, true_and, and_true, cond_true, cond_false, List.map_cons, List.map_nil, Option.map_some, Option.map_none, List.getElem?_cons_zero, List.getElem?_cons_succ, ne_eq, not_false_eq_true, List.nil_append, List.append_nil, List.cons_append, List.contains_cons, List.contains_nil, Nat.reduceBEq, Bool.or_false, Bool.false_or, Bool.true_or, Bool.or_true], by simp only [go_sem, reduceIte, Nat.reduceEqDiff, Nat.reduceAdd, Nat.reduceMul, Nat.reduceSub, Int.reduceLE, Int.reduceLT, Int.reduceNe, Int.reduceToNat, Int.reducePow, Int.reduceAdd, Int.reduceMul, reduceCtorEq, true_and, and_true, cond_true, cond_false, List.map_cons, List.map_nil, Option.map_some, Option.map_none, List.getElem?_cons_zero, List.getElem?_cons_succ, ne_eq, not_false_eq_true, List.nil_append, List.append_nil, List.cons_append, List.contains_cons, List.contains_nil, Nat.reduceBEq, Bool.or_false, Bool.false_or, Bool.true_or, Bool.or_true]; rfl⟩
    rintro k fr h6 ⟨i, rfl, hi, rfl, hf1, hf2, hf8, hf9, hf10⟩
    simp only [go_sem, reduceIte, Nat.reduceEqDiff, Nat.reduceAdd, Nat.reduceMul, Nat.reduceSub, Int.reduceLE, Int.reduceLT, Int.reduceNe, Int.reduceToNat, Int.reducePow, Int.reduceAdd, Int.reduceMul, reduceCtorEq, true_and, and_true, cond_true, cond_false, List.map_cons, List.map_nil, Option.map_some, Option.map_none, List.getElem?_cons_zero, List.getElem?_cons_succ, ne_eq, not_false_eq_true, List.nil_append, List.append_nil, List.cons_append, List.contains_cons, List.contains_nil, Nat.reduceBEq, Bool.or_false, Bool.false_or, Bool.true_or, Bool.or_true, hf1, hf2, hf8, hf9, hf10]
    refine condK_intro (fun hc => ?_) (fun hc => ?_)
    · have hc : i < 1 := by have := of_decide_eq_true hc; omega
      obtain ⟨p, e3, e4⟩ := index_bytes byte24 hb5 (k := .i64) (j := i) (by omega)
      have hix : x[i]? = some x[i] := List.getElem?_eq_getElem (by omega)
      have hcl : (x[i]).toNat < 256 := (x[i]).toNat_lt
      have hta := take_next hix
      have htl : (x.take i).length = i := by rw [List.length_take]; omega
      have hlt := leV_lt (x.take i)
      rw [htl] at hlt
      have hap := leV_append (x.take i) x[i]
      rw [htl] at hap
      have hp := pow8_le (k := i + 1) (by omega)
      rw [pow_split] at hp
      have hm : (x[i]).toNat * 2 ^ (8 * i) ≤ 255 * 2 ^ (8 * i) := Nat.mul_le_mul_right _ (by omega)
      have em : min (8 * i) 64 = 8 * i := by omega
      have o1 := shl_nat (x[i]).toNat (8 * i) (by omega)
      have o2 := or_add (leV (x.take i)) (x[i]).toNat (8 * i) hlt (by omega)
      simp only [go_sem, reduceIte, Nat.reduceEqDiff, Nat.reduceAdd, Nat.reduceMul, Nat.reduceSub, Int.reduceLE, Int.reduceLT, Int.reduceNe, Int.reduceToNat, Int.reducePow, Int.reduceAdd, Int.reduceMul, reduceCtorEq, true_and, and_true, cond_true, cond_false, List.map_cons, List.map_nil, Option.map_some, Option.map_none, List.getElem?_cons_zero, List.getElem?_cons_succ, ne_eq, not_false_eq_true, List.nil_append, List.append_nil, List.cons_append, List.contains_cons, List.contains_nil, Nat.reduceBEq, Bool.or_false, Bool.false_or, Bool.true_or, Bool.or_true, hf1, hf2, hf8, hf9, hf10, e3, e4, w_u64_in (x[i]).toNat (by omega), w_mul8 (show i ≤ 8 by omega), Int.natCast_nonneg, Int.toNat_natCast, em, o1, o2, w_inc (show i ≤ 1000000000 by omega)]
      refine ⟨1 - (i + 1), by omega, i + 1, rfl, by omega, ?_, rfl⟩
      rw [hta, hap]
    · have hc : i = 1 := by have := of_decide_eq_false hc; omega
      subst hc
      have htk : x.take 1 = x := by rw [← hxl]; exact List.take_length
      have hlt := leV_lt x
      rw [hxl] at hlt
      rw [htk] at hf2
      simp (discharger := first | assumption | omega | (simp only [next_push, next_set] <;> omega) | (simp only [List.length_cons, List.length_nil] <;> omega) | decide) only [go_sem, reduceIte, Nat.reduceEqDiff, Nat.reduceAdd, Nat.reduceMul, Nat.reduceSub, Int.reduceLE, Int.reduceLT, Int.reduceNe, Int.reduceToNat, Int.reducePow, Int.reduceAdd, Int.reduceMul, reduceCtorEq, true_and, and_true, cond_true, cond_false, List.map_cons, List.map_nil, Option.map_some, Option.map_none, List.getElem?_cons_zero, List.getElem?_cons_succ, ne_eq, not_false_eq_true, List.nil_append, List.append_nil, List.cons_append, List.contains_cons, List.contains_nil, Nat.reduceBEq, Bool.or_false, Bool.false_or, Bool.true_or, Bool.or_true, hf1, hf2, hf8, hf9, hf10, hg5, w_u8_in (leV x) (by simpa using hlt), CloO, aResults_nil (F := Try.f69) rfl, List.set_cons_zero]
      exact ⟨_, rfl, hr2.set_other h1 h2, keep_set_in (hk2.mono (by simp)) (by simp), _, get_set_same, rfl⟩

theorem take8_con {ri : Nat} {bv : AV} {bs : List UInt8} {at_ : Nat} {h : AH} (hr : RD h ri bv bs at_ 0) (hl : bs.length ≤ 140737488355328) :
    Con E0 sp0 100000 5 21 [.ptr ri 0] h (MeO ri bv bs at_ h (fixF 1 (bs.drop at_)) (.int .u8 0) fun x v _ => v = .int .u8 (x : Nat)) := by
  refine Con.of_body rfl fn21 fun n hn => ⟨rfl, ?_⟩
  conv in slim _ _ _ => cbv
  have hlt := hr.lt
  have hbl := hr.bv_lt
  have k1 : Keep h ((h.push (.cells [.ptr ri 0] 40 .own)).push (.cells [.int .u8 0] 5 .own)) [] := ((Keep.push h _).trans (Keep.push _ _)).mono (by simp)
  obtain ⟨h', v, e1, hg1, hk1, hv1, hm⟩ := reading_me (d := 3) (n := n) (vi := h.next + 1) (T := 5) (z := .int .u8 0) (V := fun (x : Nat) v _ => v = .int .u8 (x : Nat)) (F := fixF 1 (bs.drop at_)) hr k1 (g := 69) (caps := [.ptr h.next 0, .ptr (h.next + 1) 0]) (by rw [fn69]; rfl) (by omega) (by simp) (get_push_new (by simp))
    (fun r1 q1 => tkclo8_con r1 hl (by simp [rd_next]; omega) (by omega) (by rw [q1.get _ (by simp; omega) (by simp), get_push_old (by simp), get_push_new rfl]) (by simp [rd_next]) (by rw [q1.get _ (by simp) (by simp), get_push_new (by simp)]) (by omega) (fun j hj => by have := hbl j hj; omega)) (by omega)
  simp (discharger := first | assumption | omega | (simp only [next_push, next_set] <;> omega) | (simp only [List.length_cons, List.length_nil] <;> omega) | decide) only [go_sem, reduceIte, Nat.reduceEqDiff, Nat.reduceAdd, Nat.reduceMul, Nat.reduceSub, Int.reduceLE, Int.reduceLT, Int.reduceNe, Int.reduceToNat, Int.reducePow, Int.reduceAdd, Int.reduceMul, reduceCtorEq, true_and, and_true, cond_true, cond_false, List.map_cons, List.map_nil, Option.map_some, Option.map_none, List.getElem?_cons_zero, List.getElem?_cons_succ, ne_eq, not_false_eq_true, List.nil_append, List.append_nil, List.cons_append, List.contains_cons, List.contains_nil, Nat.reduceBEq, Bool.or_false, Bool.false_or, Bool.true_or, Bool.or_true, get_push_new, get_push_old, e1, hg1]
  cases hF : fixF 1 (bs.drop at_) with
  | ok x k =>
    rw [hF] at hm
    obtain ⟨m1, rfl⟩ := hm
    simp (discharger := first | assumption | omega | (simp only [next_push, next_set] <;> omega) | (simp only [List.length_cons, List.length_nil] <;> omega) | decide) only [go_sem, reduceIte, Nat.reduceEqDiff, Nat.reduceAdd, Nat.reduceMul, Nat.reduceSub, Int.reduceLE, Int.reduceLT, Int.reduceNe, Int.reduceToNat, Int.reducePow, Int.reduceAdd, Int.reduceMul, reduceCtorEq, true_and, and_true, cond_true, cond_false, List.map_cons, List.map_nil, Option.map_some, Option.map_none, List.getElem?_cons_zero, List.getElem?_cons_succ, ne_eq, not_false_eq_true, List.nil_append, List.append_nil, List.cons_append, List.contains_cons, List.contains_nil, Nat.reduceBEq, Bool.or_false, Bool.false_or, Bool.true_or, Bool.or_true, hg1, get_set_same, List.set_cons_zero, aResults_one (F := Try.f21) rfl, MeO]
    exact ⟨_, _, rfl, m1, hk1, rfl⟩
  | bad e =>
    rw [hF] at hm
    obtain ⟨rfl, m1⟩ := hm
    simp (discharger := first | assumption | omega | (simp only [next_push, next_set] <;> omega) | (simp only [List.length_cons, List.length_nil] <;> omega) | decide) only [go_sem, reduceIte, Nat.reduceEqDiff, Nat.reduceAdd, Nat.reduceMul, Nat.reduceSub, Int.reduceLE, Int.reduceLT, Int.reduceNe, Int.reduceToNat, Int.reducePow, Int.reduceAdd, Int.reduceMul, reduceCtorEq, true_and, and_true, cond_true, cond_false, List.map_cons, List.map_nil, Option.map_some, Option.map_none, List.getElem?_cons_zero, List.getElem?_cons_succ, ne_eq, not_false_eq_true, List.nil_append, List.append_nil, List.cons_append, List.contains_cons, List.contains_nil, Nat.reduceBEq, Bool.or_false, Bool.false_or, Bool.true_or, Bool.or_true, hg1, get_set_same, List.set_cons_zero, aResults_one (F := Try.f21) rfl, MeO]
    exact ⟨_, rfl, m1, hk1⟩

theorem tkclo16_con {ri bi vi : Nat} {bv : AV} {bs : List UInt8} {at_ : Nat} {H : AH} (hr : RD H ri bv bs at_ 0) (hl : bs.length ≤ 140737488355328) (hb : bi < H.next) (hbr : bi ≠ ri) (hbg : H.get bi = .cells [.ptr ri 0] 40 .own) (hv : vi < H.next) {z : AV} (hvg : H.get vi = .cells [z] 23 .own) (h1 : vi ≠ ri) (h2 : ∀ j ∈ ids bv, j ≠ vi) :
    Con E0 sp0 100000 3 71 [.ptr bi 0, .ptr vi 0] H (CloO ri bv bs at_ [vi] H (fixF 2 (bs.drop at_)) fun x h2 => ∃ v, h2.get vi = .cells [v] 23 .own ∧ v = .int .u16 (x : Nat)) := by
  refine Con.of_body rfl fn71 fun n hn => ⟨rfl, ?_⟩
  obtain ⟨n, rfl⟩ : ∃ k, n = k + 2 := ⟨n - 2, by omega⟩
  conv in slim _ _ _ => cbv
  obtain ⟨out, e1, ho⟩ := take_use hr (k := 2) (by omega) hl (n + 2) (by omega)
  have e1' : aCall E0 sp0 100000 (n + 2) 70 [AV.ptr ri 0, AV.int IntKind.u64 2] H = some out := e1
  clear e1
  have ew : IntKind.u64.wrap 2 = 2 := by decide
  unfold takeF at ho
  unfold fixF
  by_cases hc : 2 ≤ (bs.drop at_).length
  case neg =>
    rw [if_neg hc] at ho ⊢
    obtain ⟨h3, at2, rfl, hr2, hk2⟩ := ho
    have hbg3 : h3.get bi = .cells [.ptr ri 0] 40 .own := by rw [hk2.get _ hb (by simpa using hbr)]; exact hbg
    simp only [go_sem, reduceIte, Nat.reduceEqDiff, Nat.reduceAdd, Nat.reduceMul, Nat.reduceSub, Int.reduceLE, Int.reduceLT, Int.reduceNe, Int.reduceToNat, Int.reducePow, Int.reduceAdd, Int.reduceMul, reduceCtorEq, true_and, and_true, cond_true, cond_false, List.map_cons, List.map_nil, Option.map_some, Option.map_none, List.getElem?_cons_zero, List.getElem?_cons_succ, ne_eq, not_false_eq_true, List.nil_append, List.append_nil, List.cons_append, List.contains_cons, List.contains_nil, Nat.reduceBEq, Bool.or_false, Bool.false_or, Bool.true_or, Bool.or_true, hbg, hbg3, width16, ew, e1', CloO]
    exact ⟨_, _, rfl, hr2, hk2⟩
  case pos =>
    rw [if_pos hc] at ho ⊢
    obtain ⟨v, h5, rfl, hr2, hk2, hb5, hi5⟩ := ho
    generalize hx : (bs.drop at_).take 2 = x at hb5 ⊢
    have hxl : x.length = 2 := by rw [← hx, List.length_take]; omega
    have hlen : qBuiltin E0 h5 .len [v] [24] = some (.int .i64 2) := by rw [len_bytes byte24 hb5, hxl]; rfl
    have hbg5 : h5.get bi = .cells [.ptr ri 0] 40 .own := by rw [hk2.get _ hb (by simpa using hbr)]; exact hbg
    have hg5 : h5.get vi = .cells [z] 23 .own := by rw [hk2.get _ hv (by simpa using h1)]; exact hvg
    simp only [go_sem, reduceIte, Nat.reduceEqDiff, Nat.reduceAdd, Nat.reduceMul, Nat.reduceSub, Int.reduceLE, Int.reduceLT, Int.reduceNe, Int.reduceToNat, Int.reducePow, Int.reduceAdd, Int.reduceMul, reduceCtorEq, true_and, and_true, cond_true, cond_false, List.map_cons, List.map_nil, Option.map_some, Option.map_none, List.getElem?_cons_zero, List.getElem?_cons_succ, ne_eq, not_false_eq_true, List.nil_append, List.append_nil, List.cons_append, List.contains_cons, List.contains_nil, Nat.reduceBEq, Bool.or_false, Bool.false_or, Bool.true_or, Bool.or_true, hbg, hbg5, width16, ew, e1', hlen]
    refine wLoop_inv (fun k fr h6 => ∃ i, k = 2 - i ∧ i ≤ 2 ∧ h6 = h5 ∧ fr 1 = .ptr vi 0 ∧ fr 2 = .int .u64 (leV (x.take i) : Nat) ∧ fr 8 = v ∧ fr 9 = .int .i64 2 ∧ fr 10 = .int .i64 (i : Nat)) ?_ 100000 2 _ _ (by omega) ⟨0, rfl, by omega, rfl, by simp only [go_sem, reduceIte, Nat.reduceEqDiff, Nat.reduceAdd, Nat.reduceMul, Nat.reduceSub, Int.reduceLE, Int.reduceLT, Int.reduceNe, Int.reduceToNat, Int.reducePow, Int.reduceAdd, Int.reduceMul, reduceCtorEq, true_and, and_true, cond_true, cond_false, List.map_cons, List.map_nil, Option.map_some, Option.map_none, List.getElem?_cons_zero, List.getElem?_cons_succ, ne_eq, not_false_eq_true, List.nil_append, List.append_nil, List.cons_append, List.contains_cons, List.contains_nil, Nat.reduceBEq, Bool.or_false, Bool.false_or, Bool.true_or, Bool.or_true], by simp only [go_sem, reduceIte, Nat.reduceEqDiff, Nat.reduceAdd, Nat.reduceMul, Nat.reduceSub, Int.reduceLE, Int.reduceLT, Int.reduceNe, Int.reduceToNat, Int.reducePow, Int.reduceAdd, Int.reduceMul, reduceCtorEq, true_and, and_true, cond_true, cond_false, List.map_cons, List.map_nil, Option.map_some, Option.map_none, List.getElem?_cons_zero, List.getElem?_cons_succ, ne_eq, not_false_eq_true, List.nil_append, List.append_nil, List.cons_append, List.contains_cons, List.contains_nil, Nat.reduceBEq, Bool.or_false, Bool.false_or, Bool.true_or, Bool.or_true]; rfl, by simp only [go_sem, reduceIte, Nat.reduceEqDiff, Nat.reduceAdd, Nat.reduceMul, Nat.reduceSub, Int.reduceLE, Int.reduceLT, Int.reduceNe, Int.reduceToNat, Int.reducePow, Int.reduceAdd, Int.reduceMul, reduceCtorEq, true_and, and_true, cond_true, cond_false, List.map_cons, List.map_nil, Option.map_some, Option.map_none, List.getElem?_cons_zero, List.getElem?_cons_succ, ne_eq, not_false_eq_true, List.nil_append, List.append_nil, List.cons_append, List.contains_cons, List.contains_nil, Nat.reduceBEq, Bool.or_false, Bool.false_or, Bool.true_or, Bool.or_true], by simp only [go_sem, reduceIte, Nat.reduceEqDiff, Nat.reduceAdd, Nat.reduceMul, Nat.reduceSub, Int.reduceLE, Int.reduceLT, Int.reduceNe, Int.reduceToNat, Int.reducePow, Int.reduceAdd, Int.reduceMul, reduceCtorEq, true_and, and_true, cond_true, cond_false, List.map_cons, List.map_nil, Option.map_some, Option.map_none, List.getElem?_cons_zero, List.getElem?_cons_succ, ne_eq, not_false_eq_true, List.nil_append, List.append_nil, List.cons_append, List.contains_cons, List.contains_nil, Nat.reduceBEq, Bool.or_false, Bool.false_or, Bool.true_or, Bool.or_true], by simp only [go_sem, reduceIte, Nat.reduceEqDiff, Nat.reduceAdd, Nat.reduceMul, Nat.reduceSub, Int.reduceLE, Int.reduceLT, Int.reduceNe, Int.reduceToNat, Int.reducePow, Int.reduceAdd, Int.reduceMul, reduceCtorEq, true_and, and_true, cond_true, cond_false, List.map_cons, List.map_nil, Option.map_some, Option.map_none, List.getElem?_cons_zero, List.getElem?_cons_succ, ne_eq, not_false_eq_true, List.nil_append, List.append_nil, List.cons_append, List.contains_cons, List.contains_nil, Nat.reduceBEq, Bool.or_false, Bool.false_or, Bool.true_or, Bool.or_true]; rfl⟩
    rintro k fr h6 ⟨i, rfl, hi, rfl, hf1, hf2, hf8, hf9, hf10⟩
    simp only [go_sem, reduceIte, Nat.reduceEqDiff, Nat.reduceAdd, Nat.reduceMul, Nat.reduceSub, Int.reduceLE, Int.reduceLT, Int.reduceNe, Int.reduceToNat, Int.reducePow, Int.reduceAdd, Int.reduceMul, reduceCtorEq, true_and, and_true, cond_true, cond_false, List.map_cons, List.map_nil, Option.map_some, Option.map_none, List.getElem?_cons_zero, List.getElem?_cons_succ, ne_eq, not_false_eq_true, List.nil_append, List.append_nil, List.cons_append, List.contains_cons, List.contains_nil, Nat.reduceBEq, Bool.or_false, Bool.false_or, Bool.true_or, Bool.or_true, hf1, hf2, hf8, hf9, hf10]
    refine condK_intro (fun hc => ?_) (fun hc => ?_)
    · have hc : i < 2 := by have := of_decide_eq_true hc; omega
      obtain ⟨p, e3, e4⟩ := index_bytes byte24 hb5 (k := .i64) (j := i) (by omega)
      have hix : x[i]? = some x[i] := List.getElem?_eq_getElem (by omega)
      have hcl : (x[i]).toNat < 256 := (x[i]).toNat_lt
      have hta := take_next hix
      have htl : (x.take i).length = i := by rw [List.length_take]; omega
      have hlt := leV_lt (x.take i)
      rw [htl] at hlt
      have hap := leV_append (x.take i) x[i]
      rw [htl] at hap
      have hp := pow8_le (k := i + 1) (by omega)
      rw [pow_split] at hp
      have hm : (x[i]).toNat * 2 ^ (8 * i) ≤ 255 * 2 ^ (8 * i) := Nat.mul_le_mul_right _ (by omega)
      have em : min (8 * i) 64 = 8 * i := by omega
      have o1 := shl_nat (x[i]).toNat (8 * i) (by omega)
      have o2 := or_add (leV (x.take i)) (x[i]).toNat (8 * i) hlt (by omega)
      simp only [go_sem, reduceIte, Nat.reduceEqDiff, Nat.reduceAdd, Nat.reduceMul, Nat.reduceSub, Int.reduceLE, Int.reduceLT, Int.reduceNe, Int.reduceToNat, Int.reducePow, Int.reduceAdd, Int.reduceMul, reduceCtorEq, true_and, and_true, cond_true, cond_false, List.map_cons, List.map_nil, Option.map_some, Option.map_none, List.getElem?_cons_zero, List.getElem?_cons_succ, ne_eq, not_false_eq_true, List.nil_append, List.append_nil, List.cons_append, List.contains_cons, List.contains_nil, Nat.reduceBEq, Bool.or_false, Bool.false_or, Bool.true_or, Bool.or_true, hf1, hf2, hf8, hf9, hf10, e3, e4, w_u64_in (x[i]).toNat (by omega), w_mul8 (show i ≤ 8 by omega), Int.natCast_nonneg, Int.toNat_natCast, em, o1, o2, w_inc (show i ≤ 1000000000 by omega)]
      refine ⟨2 - (i + 1), by omega, i + 1, rfl, by omega, ?_, rfl⟩
      rw [hta, hap]
    · have hc : i = 2 := by have := of_decide_eq_false hc; omega
      subst hc
      have htk : x.take 2 = x := by rw [← hxl]; exact List.take_length
      have hlt := leV_lt x
      rw [hxl] at hlt
      rw [htk] at hf2
      simp (discharger := first | assumption | omega | (simp only [next_push, next_set] <;> omega) | (simp only [List.length_cons, List.length_nil] <;> omega) | decide) only [go_sem, reduceIte, Nat.reduceEqDiff, Nat.reduceAdd, Nat.reduceMul, Nat.reduceSub, Int.reduceLE, Int.reduceLT, Int.reduceNe, Int.reduceToNat, Int.reducePow, Int.reduceAdd, Int.reduceMul, reduceCtorEq, true_and, and_true, cond_true, cond_false, List.map_cons, List.map_nil, Option.map_some, Option.map_none, List.getElem?_cons_zero, List.getElem?_cons_succ, ne_eq, not_false_eq_true, List.nil_append, List.append_nil, List.cons_append, List.contains_cons, List.contains_nil, Nat.reduceBEq, Bool.or_false, Bool.false_or, Bool.true_or, Bool.or_true, hf1, hf2, hf8, hf9, hf10, hg5, w_u16, Nat.mod_eq_of_lt (show leV x < 65536 by simpa using hlt), CloO, aResults_nil (F := Try.f71) rfl, List.set_cons_zero]
      exact ⟨_, rfl, hr2.set_other h1 h2, keep_set_in (hk2.mono (by simp)) (by simp), _, get_set_same, rfl⟩

theorem take16_con {ri : Nat} {bv : AV} {bs : List UInt8} {at_ : Nat} {h : AH} (hr : RD h ri bv bs at_ 0) (hl : bs.length ≤ 140737488355328) :
    Con E0 sp0 100000 5 22 [.ptr ri 0] h (MeO ri bv bs at_ h (fixF 2 (bs.drop at_)) (.int .u16 0) fun x v _ => v = .int .u16 (x : Nat)) := by
  refine Con.of_body rfl fn22 fun n hn => ⟨rfl, ?_⟩
  conv in slim _ _ _ => cbv
  have hlt := hr.lt
  have hbl := hr.bv_lt
  have k1 : Keep h ((h.push (.cells [.ptr ri 0] 40 .own)).push (.cells [.int .u16 0] 23 .own)) [] := ((Keep.push h _).trans (Keep.push _ _)).mono (by simp)
  obtain ⟨h', v, e1, hg1, hk1, hv1, hm⟩ := reading_me (d := 3) (n := n) (vi := h.next + 1) (T := 23) (z := .int .u16 0) (V := fun (x : Nat) v _ => v = .int .u16 (x : Nat)) (F := fixF 2 (bs.drop at_)) hr k1 (g := 71) (caps := [.ptr h.next 0, .ptr (h.next + 1) 0]) (by rw [fn71]; rfl) (by omega) (by simp) (get_push_new (by simp))
    (fun r1 q1 => tkclo16_con r1 hl (by simp [rd_next]; omega) (by omega) (by rw [q1.get _ (by simp; omega) (by simp), get_push_old (by simp), get_push_new rfl]) (by simp [rd_next]) (by rw [q1.get _ (by simp) (by simp), get_push_new (by simp)]) (by omega) (fun j hj => by have := hbl j hj; omega)) (by omega)
  simp (discharger := first | assumption | omega | (simp only [next_push, next_set] <;> omega) | (simp only [List.length_cons, List.length_nil] <;> omega) | decide) only [go_sem, reduceIte, Nat.reduceEqDiff, Nat.reduceAdd, Nat.reduceMul, Nat.reduceSub, Int.reduceLE, Int.reduceLT, Int.reduceNe, Int.reduceToNat, Int.reducePow, Int.reduceAdd, Int.reduceMul, reduceCtorEq, true_and, and_true, cond_true, cond_false, List.map_cons, List.map_nil, Option.map_some, Option.map_none, List.getElem?_cons_zero, List.getElem?_cons_succ, ne_eq, not_false_eq_true, List.nil_append, List.append_nil, List.cons_append, List.contains_cons, List.contains_nil, Nat.reduceBEq, Bool.or_false, Bool.false_or, Bool.true_or, Bool.or_true, get_push_new, get_push_old, e1, hg1]
  cases hF : fixF 2 (bs.drop at_) with
  | ok x k =>
    rw [hF] at hm
    obtain ⟨m1, rfl⟩ := hm
    simp (discharger := first | assumption | omega | (simp only [next_push, next_set] <;> omega) | (simp only [List.length_cons, List.length_nil] <;> omega) | decide) only [go_sem, reduceIte, Nat.reduceEqDiff, Nat.reduceAdd, Nat.reduceMul, Nat.reduceSub, Int.reduceLE, Int.reduceLT, Int.reduceNe, Int.reduceToNat, Int.reducePow, Int.reduceAdd, Int.reduceMul, reduceCtorEq, true_and, and_true, cond_true, cond_false, List.map_cons, List.map_nil, Option.map_some, Option.map_none, List.getElem?_cons_zero, List.getElem?_cons_succ, ne_eq, not_false_eq_true, List.nil_append, List.append_nil, List.cons_append, List.contains_cons, List.contains_nil, Nat.reduceBEq, Bool.or_false, Bool.false_or, Bool.true_or, Bool.or_true, hg1, get_set_same, List.set_cons_zero, aResults_one (F := Try.f22) rfl, MeO]
    exact ⟨_, _, rfl, m1, hk1, rfl⟩
  | bad e =>
    rw [hF] at hm
    obtain ⟨rfl, m1⟩ := hm
    simp (discharger := first | assumption | omega | (simp only [next_push, next_set] <;> omega) | (simp only [List.length_cons, List.length_nil] <;> omega) | decide) only [go_sem, reduceIte, Nat.reduceEqDiff, Nat.reduceAdd, Nat.reduceMul, Nat.reduceSub, Int.reduceLE, Int.reduceLT, Int.reduceNe, Int.reduceToNat, Int.reducePow, Int.reduceAdd, Int.reduceMul, reduceCtorEq, true_and, and_true, cond_true, cond_false, List.map_cons, List.map_nil, Option.map_some, Option.map_none, List.getElem?_cons_zero, List.getElem?_cons_succ, ne_eq, not_false_eq_true, List.nil_append, List.append_nil, List.cons_append, List.contains_cons, List.contains_nil, Nat.reduceBEq, Bool.or_false, Bool.false_or, Bool.true_or, Bool.or_true, hg1, get_set_same, List.set_cons_zero, aResults_one (F := Try.f22) rfl, MeO]
    exact ⟨_, rfl, m1, hk1⟩

theorem tkclo32_con {ri bi vi : Nat} {bv : AV} {bs : List UInt8} {at_ : Nat} {H : AH} (hr : RD H ri bv bs at_ 0) (hl : bs.length ≤ 140737488355328) (hb : bi < H.next) (hbr : bi ≠ ri) (hbg : H.get bi = .cells [.ptr ri 0] 40 .own) (hv : vi < H.next) {z : AV} (hvg : H.get vi = .cells [z] 32 .own) (h1 : vi ≠ ri) (h2 : ∀ j ∈ ids bv, j ≠ vi) :
    Con E0 sp0 100000 3 72 [.ptr bi 0, .ptr vi 0] H (CloO ri bv bs at_ [vi] H (fixF 4 (bs.drop at_)) fun x h2 => ∃ v, h2.get vi = .cells [v] 32 .own ∧ v = .int .u32 (x : Nat)) := by
  refine Con.of_body rfl fn72 fun n hn => ⟨rfl, ?_⟩
  obtain ⟨n, rfl⟩ : ∃ k, n = k + 2 := ⟨n - 2, by omega⟩
  conv in slim _ _ _ => cbv
  obtain ⟨out, e1, ho⟩ := take_use hr (k := 4) (by omega) hl (n + 2) (by omega)
  have e1' : aCall E0 sp0 100000 (n + 2) 70 [AV.ptr ri 0, AV.int IntKind.u64 4] H = some out := e1
  clear e1
  have ew : IntKind.u64.wrap 4 = 4 := by decide
  unfold takeF at ho
  unfold fixF
  by_cases hc : 4 ≤ (bs.drop at_).length
  case neg =>
    rw [if_neg hc] at ho ⊢
    obtain ⟨h3, at2, rfl, hr2, hk2⟩ := ho
    have hbg3 : h3.get bi = .cells [.ptr ri 0] 40 .own := by rw [hk2.get _ hb (by simpa using hbr)]; exact hbg
    simp only [go_sem, reduceIte, Nat.reduceEqDiff, Nat.reduceAdd, Nat.reduceMul, Nat.reduceSub, Int.reduceLE, Int.reduceLT, Int.reduceNe, Int.reduceToNat, Int.reducePow, Int.reduceAdd, Int.reduceMul, reduceCtorEq, true_and, and_true, cond_true, cond_false, List.map_cons, List.map_nil, Option.map_some, Option.map_none, List.getElem?_cons_zero, List.getElem?_cons_succ, ne_eq, not_false_eq_true, List.nil_append, List.append_nil, List.cons_append, List.contains_cons, List.contains_nil, Nat.reduceBEq, Bool.or_false, Bool.false_or, Bool.true_or, Bool.or_true, hbg, hbg3, width32, ew, e1', CloO]
    exact ⟨_, _, rfl, hr2, hk2⟩
  case pos =>
    rw [if_pos hc] at ho ⊢
    obtain ⟨v, h5, rfl, hr2, hk2, hb5, hi5⟩ := ho
    generalize hx : (bs.drop at_).take 4 = x at hb5 ⊢
    have hxl : x.length = 4 := by rw [← hx, List.length_take]; omega
    have hlen : qBuiltin E0 h5 .len [v] [24] = some (.int .i64 4) := by rw [len_bytes byte24 hb5, hxl]; rfl
    have hbg5 : h5.get bi = .cells [.ptr ri 0] 40 .own := by rw [hk2.get _ hb (by simpa using hbr)]; exact hbg
    have hg5 : h5.get vi = .cells [z] 32 .own := by rw [hk2.get _ hv (by simpa using h1)]; exact hvg
    simp only [go_sem, reduceIte, Nat.reduceEqDiff, Nat.reduceAdd, Nat.reduceMul, Nat.reduceSub, Int.reduceLE, Int.reduceLT, Int.reduceNe, Int.reduceToNat, Int.reducePow, Int.reduceAdd, Int.reduceMul, reduceCtorEq, true_and, and_true, cond_true, cond_false, List.map_cons, List.map_nil, Option.map_some, Option.map_none, List.getElem?_cons_zero, List.getElem?_cons_succ, ne_eq, not_false_eq_true, List.nil_append, List.append_nil, List.cons_append, List.contains_cons, List.contains_nil, Nat.reduceBEq, Bool.or_false, Bool.false_or, Bool.true_or, Bool.or_true, hbg, hbg5, width32, ew, e1', hlen]
    refine wLoop_inv (fun k fr h6 => ∃ i, k = 4 - i ∧ i ≤ 4 ∧ h6 = h5 ∧ fr 1 = .ptr vi 0 ∧ fr 2 = .int .u64 (leV (x.take i) : Nat) ∧ fr 8 = v ∧ fr 9 = .int .i64 4 ∧ fr 10 = .int .i64 (i : Nat)) ?_ 100000 4 _ _ (by omega) ⟨0, rfl, by omega, rfl, by simp only [go_sem, reduceIte, Nat.reduceEqDiff, Nat.reduceAdd, Nat.reduceMul, Nat.reduceSub, Int.reduceLE, Int.reduceLT, Int.reduceNe, Int.reduceToNat, Int.reducePow, Int.reduceAdd, Int.reduceMul, reduceCtorEq, true_and, and_true, cond_true, cond_false, List.map_cons, List.map_nil, Option.map_some, Option.map_none, List.getElem?_cons_zero, List.getElem?_cons_succ, ne_eq, not_false_eq_true, List.nil_append, List.append_nil, List.cons_append, List.contains_cons, List.contains_nil, Nat.reduceBEq, Bool.or_false, Bool.false_or, Bool.true_or, Bool.or_true], by simp only [go_sem, reduceIte, Nat.reduceEqDiff, Nat.reduceAdd, Nat.reduceMul, Nat.reduceSub, Int.reduceLE, Int.reduceLT, Int.reduceNe, Int.reduceToNat, Int.reducePow, Int.reduceAdd, Int.reduceMul, reduceCtorEq, true_and, and_true, cond_true, cond_false, List.map_cons, List.map_nil, Option.map_some, Option.map_none, List.getElem?_cons_zero, List.getElem?_cons_succ, ne_eq, not_false_eq_true, List.nil_append, List.append_nil, List.cons_append, List.contains_cons, List.contains_nil, Nat.reduceBEq, Bool.or_false, Bool.false_or, Bool.true_or, Bool.or_true]; rfl, by simp only [go_sem, reduceIte, Nat.reduceEqDiff, Nat.reduceAdd, Nat.reduceMul, Nat.reduceSub, Int.reduceLE, Int.reduceLT, Int.reduceNe, Int.reduceToNat, Int.reducePow, Int.reduceAdd, Int.reduceMul, reduceCtorEq, true_and, and_true, cond_true, cond_false, List.map_cons, List.map_nil, Option.map_some, Option.map_none, List.getElem?_cons_zero, List.getElem?_cons_succ, ne_eq, not_false_eq_true, List.nil_append, List.append_nil, List.cons_append, List.contains_cons, List.contains_nil, Nat.reduceBEq, Bool.or_false, Bool.false_or, Bool.true_or, Bool.or_true], by simp only [go_sem, reduceIte, Nat.reduceEqDiff, Nat.reduceAdd, Nat.reduceMul, Nat.reduceSub, Int.reduceLE, Int.reduceLT, Int.reduceNe, Int.reduceToNat, Int.reducePow, Int.reduceAdd, Int.reduceMul, reduceCtorEq, true_and, and_true, cond_true, cond_false, List.map_cons, List.map_nil, Option.map_some, Option.map_none, List.getElem?_cons_zero, List.getElem?_cons_succ, ne_eq, not_false_eq_true, List.nil_append, List.append_nil, List.cons_append, List.contains_cons, List.contains_nil, Nat.reduceBEq, Bool.or_false, Bool.false_or, Bool.true_or, Bool.or_true], by simp only [go_sem, reduceIte, Nat.reduceEqDiff, Nat.reduceAdd, Nat.reduceMul, Nat.reduceSub, Int.reduceLE, Int.reduceLT, Int.reduceNe, Int.reduceToNat, Int.reducePow, Int.reduceAdd, Int.reduceMul, reduceCtorEq, true_and, and_true, cond_true, cond_false, List.map_cons, List.map_nil, Option.map_some, Option.map_none, List.getElem?_cons_zero, List.getElem?_cons_succ, ne_eq, not_false_eq_true, List.nil_append, List.append_nil, List.cons_append, List.contains_cons, List.contains_nil, Nat.reduceBEq, Bool.or_false, Bool.false_or, Bool.true_or, Bool.or_true]; rfl⟩
    rintro k fr h6 ⟨i, rfl, hi, rfl, hf1, hf2, hf8, hf9, hf10⟩
    simp only [go_sem, reduceIte, Nat.reduceEqDiff, Nat.reduceAdd, Nat.reduceMul, Nat.reduceSub, Int.reduceLE, Int.reduceLT, Int.reduceNe, Int.reduceToNat, Int.reducePow, Int.reduceAdd, Int.reduceMul, reduceCtorEq, true_and, and_true, cond_true, cond_false, List.map_cons, List.map_nil, Option.map_some, Option.map_none, List.getElem?_cons_zero, List.getElem?_cons_succ, ne_eq, not_false_eq_true, List.nil_append, List.append_nil, List.cons_append, List.contains_cons, List.contains_nil, Nat.reduceBEq, Bool.or_false, Bool.false_or, Bool.true_or, Bool.or_true, hf1, hf2, hf8, hf9, hf10]
    refine condK_intro (fun hc => ?_) (fun hc => ?_)
    · have hc : i < 4 := by have := of_decide_eq_true hc; omega
      obtain ⟨p, e3, e4⟩ := index_bytes byte24 hb5 (k := .i64) (j := i) (by omega)
      have hix : x[i]? = some x[i] := List.getElem?_eq_getElem (by omega)
      have hcl : (x[i]).toNat < 256 := (x[i]).toNat_lt
      have hta := take_next hix
      have htl : (x.take i).length = i := by rw [List.length_take]; omega
      have hlt := leV_lt (x.take i)
      rw [htl] at hlt
      have hap := leV_append (x.take i) x[i]
      rw [htl] at hap
      have hp := pow8_le (k := i + 1) (by omega)
      rw [pow_split] at hp
      have hm : (x[i]).toNat * 2 ^ (8 * i) ≤ 255 * 2 ^ (8 * i) := Nat.mul_le_mul_right _ (by omega)
      have em : min (8 * i) 64 = 8 * i := by omega
      have o1 := shl_nat (x[i]).toNat (8 * i) (by omega)
      have o2 := or_add (leV (x.take i)) (x[i]).toNat (8 * i) hlt (by omega)
      simp only [go_sem, reduceIte, Nat.reduceEqDiff, Nat.reduceAdd, Nat.reduceMul, Nat.reduceSub, Int.reduceLE, Int.reduceLT, Int.reduceNe, Int.reduceToNat, Int.reducePow, Int.reduceAdd, Int.reduceMul, reduceCtorEq, true_and, and_true, cond_true, cond_false, List.map_cons, List.map_nil, Option.map_some, Option.map_none, List.getElem?_cons_zero, List.getElem?_cons_succ, ne_eq, not_false_eq_true, List.nil_append, List.append_nil, List.cons_append, List.contains_cons, List.contains_nil, Nat.reduceBEq, Bool.or_false, Bool.false_or, Bool.true_or, Bool.or_true, hf1, hf2, hf8, hf9, hf10, e3, e4, w_u64_in (x[i]).toNat (by omega), w_mul8 (show i ≤ 8 by omega), Int.natCast_nonneg, Int.toNat_natCast, em, o1, o2, w_inc (show i ≤ 1000000000 by omega)]
      refine ⟨4 - (i + 1), by omega, i + 1, rfl, by omega, ?_, rfl⟩
      rw [hta, hap]
    · have hc : i = 4 := by have := of_decide_eq_false hc; omega
      subst hc
      have htk : x.take 4 = x := by rw [← hxl]; exact List.take_length
      have hlt := leV_lt x
      rw [hxl] at hlt
      rw [htk] at hf2
      simp (discharger := first | assumption | omega | (simp only [next_push, next_set] <;> omega) | (simp only [List.length_cons, List.length_nil] <;> omega) | decide) only [go_sem, reduceIte, Nat.reduceEqDiff, Nat.reduceAdd, Nat.reduceMul, Nat.reduceSub, Int.reduceLE, Int.reduceLT, Int.reduceNe, Int.reduceToNat, Int.reducePow, Int.reduceAdd, Int.reduceMul, reduceCtorEq, true_and, and_true, cond_true, cond_false, List.map_cons, List.map_nil, Option.map_some, Option.map_none, List.getElem?_cons_zero, List.getElem?_cons_succ, ne_eq, not_false_eq_true, List.nil_append, List.append_nil, List.cons_append, List.contains_cons, List.contains_nil, Nat.reduceBEq, Bool.or_false, Bool.false_or, Bool.true_or, Bool.or_true, hf1, hf2, hf8, hf9, hf10, hg5, w_u32, Nat.mod_eq_of_lt (show leV x < 4294967296 by simpa using hlt), CloO, aResults_nil (F := Try.f72) rfl, List.set_cons_zero]
      exact ⟨_, rfl, hr2.set_other h1 h2, keep_set_in (hk2.mono (by simp)) (by simp), _, get_set_same, rfl⟩

theorem take32_con {ri : Nat} {bv : AV} {bs : List UInt8} {at_ : Nat} {h : AH} (hr : RD h ri bv bs at_ 0) (hl : bs.length ≤ 140737488355328) :
    Con E0 sp0 100000 5 23 [.ptr ri 0] h (MeO ri bv bs at_ h (fixF 4 (bs.drop at_)) (.int .u32 0) fun x v _ => v = .int .u32 (x : Nat)) := by
  refine Con.of_body rfl fn23 fun n hn => ⟨rfl, ?_⟩
  conv in slim _ _ _ => cbv
  have hlt := hr.lt
  have hbl := hr.bv_lt
  have k1 : Keep h ((h.push (.cells [.ptr ri 0] 40 .own)).push (.cells [.int .u32 0] 32 .own)) [] := ((Keep.push h _).trans (Keep.push _ _)).mono (by simp)
  obtain ⟨h', v, e1, hg1, hk1, hv1, hm⟩ := reading_me (d := 3) (n := n) (vi := h.next + 1) (T := 32) (z := .int .u32 0) (V := fun (x : Nat) v _ => v = .int .u32 (x : Nat)) (F := fixF 4 (bs.drop at_)) hr k1 (g := 72) (caps := [.ptr h.next 0, .ptr (h.next + 1) 0]) (by rw [fn72]; rfl) (by omega) (by simp) (get_push_new (by simp))
    (fun r1 q1 => tkclo32_con r1 hl (by simp [rd_next]; omega) (by omega) (by rw [q1.get _ (by simp; omega) (by simp), get_push_old (by simp), get_push_new rfl]) (by simp [rd_next]) (by rw [q1.get _ (by simp) (by simp), get_push_new (by simp)]) (by omega) (fun j hj => by have := hbl j hj; omega)) (by omega)
  simp (discharger := first | assumption | omega | (simp only [next_push, next_set] <;> omega) | (simp only [List.length_cons, List.length_nil] <;> omega) | decide) only [go_sem, reduceIte, Nat.reduceEqDiff, Nat.reduceAdd, Nat.reduceMul, Nat.reduceSub, Int.reduceLE, Int.reduceLT, Int.reduceNe, Int.reduceToNat, Int.reducePow, Int.reduceAdd, Int.reduceMul, reduceCtorEq, true_and, and_true, cond_true, cond_false, List.map_cons, List.map_nil, Option.map_some, Option.map_none, List.getElem?_cons_zero, List.getElem?_cons_succ, ne_eq, not_false_eq_true, List.nil_append, List.append_nil, List.cons_append, List.contains_cons, List.contains_nil, Nat.reduceBEq, Bool.or_false, Bool.false_or, Bool.true_or, Bool.or_true, get_push_new, get_push_old, e1, hg1]
  cases hF : fixF 4 (bs.drop at_) with
  | ok x k =>
    rw [hF] at hm
    obtain ⟨m1, rfl⟩ := hm
    simp (discharger := first | assumption | omega | (simp only [next_push, next_set] <;> omega) | (simp only [List.length_cons, List.length_nil] <;> omega) | decide) only [go_sem, reduceIte, Nat.reduceEqDiff, Nat.reduceAdd, Nat.reduceMul, Nat.reduceSub, Int.reduceLE, Int.reduceLT, Int.reduceNe, Int.reduceToNat, Int.reducePow, Int.reduceAdd, Int.reduceMul, reduceCtorEq, true_and, and_true, cond_true, cond_false, List.map_cons, List.map_nil, Option.map_some, Option.map_none, List.getElem?_cons_zero, List.getElem?_cons_succ, ne_eq, not_false_eq_true, List.nil_append, List.append_nil, List.cons_append, List.contains_cons, List.contains_nil, Nat.reduceBEq, Bool.or_false, Bool.false_or, Bool.true_or, Bool.or_true, hg1, get_set_same, List.set_cons_zero, aResults_one (F := Try.f23) rfl, MeO]
    exact ⟨_, _, rfl, m1, hk1, rfl⟩
  | bad e =>
    rw [hF] at hm
    obtain ⟨rfl, m1⟩ := hm
    simp (discharger := first | assumption | omega | (simp only [next_push, next_set] <;> omega) | (simp only [List.length_cons, List.length_nil] <;> omega) | decide) only [go_sem, reduceIte, Nat.reduceEqDiff, Nat.reduceAdd, Nat.reduceMul, Nat.reduceSub, Int.reduceLE, Int.reduceLT, Int.reduceNe, Int.reduceToNat, Int.reducePow, Int.reduceAdd, Int.reduceMul, reduceCtorEq, true_and, and_true, cond_true, cond_false, List.map_cons, List.map_nil, Option.map_some, Option.map_none, List.getElem?_cons_zero, List.getElem?_cons_succ, ne_eq, not_false_eq_true, List.nil_append, List.append_nil, List.cons_append, List.contains_cons, List.contains_nil, Nat.reduceBEq, Bool.or_false, Bool.false_or, Bool.true_or, Bool.or_true, hg1, get_set_same, List.set_cons_zero, aResults_one (F := Try.f23) rfl, MeO]
    exact ⟨_, rfl, m1, hk1⟩

theorem tkclo64_con {ri bi vi : Nat} {bv : AV} {bs : List UInt8} {at_ : Nat} {H : AH} (hr : RD H ri bv bs at_ 0) (hl : bs.length ≤ 140737488355328) (hb : bi < H.next) (hbr : bi ≠ ri) (hbg : H.get bi = .cells [.ptr ri 0] 40 .own) (hv : vi < H.next) {z : AV} (hvg : H.get vi = .cells [z] 25 .own) (h1 : vi ≠ ri) (h2 : ∀ j ∈ ids bv, j ≠ vi) :
    Con E0 sp0 100000 3 73 [.ptr bi 0, .ptr vi 0] H (CloO ri bv bs at_ [vi] H (fixF 8 (bs.drop at_)) fun x h2 => ∃ v, h2.get vi = .cells [v] 25 .own ∧ v = .int .u64 (x : Nat)) := by
  refine Con.of_body rfl fn73 fun n hn => ⟨rfl, ?_⟩
  obtain ⟨n, rfl⟩ : ∃ k, n = k + 2 := ⟨n - 2, by omega⟩
  conv in slim _ _ _ => cbv
  obtain ⟨out, e1, ho⟩ := take_use hr (k := 8) (by omega) hl (n + 2) (by omega)
  have e1' : aCall E0 sp0 100000 (n + 2) 70 [AV.ptr ri 0, AV.int IntKind.u64 8] H = some out := e1
  clear e1
  have ew : IntKind.u64.wrap 8 = 8 := by decide
  unfold takeF at ho
  unfold fixF
  by_cases hc : 8 ≤ (bs.drop at_).length
  case neg =>
    rw [if_neg hc] at ho ⊢
    obtain ⟨h3, at2, rfl, hr2, hk2⟩ := ho
    have hbg3 : h3.get bi = .cells [.ptr ri 0] 40 .own := by rw [hk2.get _ hb (by simpa using hbr)]; exact hbg
    simp only [go_sem, reduceIte, Nat.reduceEqDiff, Nat.reduceAdd, Nat.reduceMul, Nat.reduceSub, Int.reduceLE, Int.reduceLT, Int.reduceNe, Int.reduceToNat, Int.reducePow, Int.reduceAdd, Int.reduceMul, reduceCtorEq, true_and, and_true, cond_true, cond_false, List.map_cons, List.map_nil, Option.map_some, Option.map_none, List.getElem?_cons_zero, List.getElem?_cons_succ, ne_eq, not_false_eq_true, List.nil_append, List.append_nil, List.cons_append, List.contains_cons, List.contains_nil, Nat.reduceBEq, Bool.or_false, Bool.false_or, Bool.true_or, Bool.or_true, hbg, hbg3, width64, ew, e1', CloO]
    exact ⟨_, _, rfl, hr2, hk2⟩
  case pos =>
    rw [if_pos hc] at ho ⊢
    obtain ⟨v, h5, rfl, hr2, hk2, hb5, hi5⟩ := ho
    generalize hx : (bs.drop at_).take 8 = x at hb5 ⊢
    have hxl : x.length = 8 := by rw [← hx, List.length_take]; omega
    have hlen : qBuiltin E0 h5 .len [v] [24] = some (.int .i64 8) := by rw [len_bytes byte24 hb5, hxl]; rfl
    have hbg5 : h5.get bi = .cells [.ptr ri 0] 40 .own := by rw [hk2.get _ hb (by simpa using hbr)]; exact hbg
    have hg5 : h5.get vi = .cells [z] 25 .own := by rw [hk2.get _ hv (by simpa using h1)]; exact hvg
    simp only [go_sem, reduceIte, Nat.reduceEqDiff, Nat.reduceAdd, Nat.reduceMul, Nat.reduceSub, Int.reduceLE, Int.reduceLT, Int.reduceNe, Int.reduceToNat, Int.reducePow, Int.reduceAdd, Int.reduceMul, reduceCtorEq, true_and, and_true, cond_true, cond_false, List.map_cons, List.map_nil, Option.map_some, Option.map_none, List.getElem?_cons_zero, List.getElem?_cons_succ, ne_eq, not_false_eq_true, List.nil_append, List.append_nil, List.cons_append, List.contains_cons, List.contains_nil, Nat.reduceBEq, Bool.or_false, Bool.false_or, Bool.true_or, Bool.or_true, hbg, hbg5, width64, ew, e1', hlen]
    refine wLoop_inv (fun k fr h6 => ∃ i, k = 8 - i ∧ i ≤ 8 ∧ h6 = h5 ∧ fr 1 = .ptr vi 0 ∧ fr 2 = .int .u64 (leV (x.take i) : Nat) ∧ fr 8 = v ∧ fr 9 = .int .i64 8 ∧ fr 10 = .int .i64 (i : Nat)) ?_ 100000 8 _ _ (by omega) ⟨0, rfl, by omega, rfl, by simp only [go_sem, reduceIte, Nat.reduceEqDiff, Nat.reduceAdd, Nat.reduceMul, Nat.reduceSub, Int.reduceLE, Int.reduceLT, Int.reduceNe, Int.reduceToNat, Int.reducePow, Int.reduceAdd, Int.reduceMul, reduceCtorEq, true_and, and_true, cond_true, cond_false, List.map_cons, List.map_nil, Option.map_some, Option.map_none, List.getElem?_cons_zero, List.getElem?_cons_succ, ne_eq, not_false_eq_true, List.nil_append, List.append_nil, List.cons_append, List.contains_cons, List.contains_nil, Nat.reduceBEq, Bool.or_false, Bool.false_or, Bool.true_or, Bool.or_true], by simp only [go_sem, reduceIte, Nat.reduceEqDiff, Nat.reduceAdd, Nat.reduceMul, Nat.reduceSub, Int.reduceLE, Int.reduceLT, Int.reduceNe, Int.reduceToNat, Int.reducePow, Int.reduceAdd, Int.reduceMul, reduceCtorEq, true_and, and_true, cond_true, cond_false, List.map_cons, List.map_nil, Option.map_some, Option.map_none, List.getElem?_cons_zero, List.getElem?_cons_succ, ne_eq, not_false_eq_true, List.nil_append, List.append_nil, List.cons_append, List.contains_cons, List.contains_nil, Nat.reduceBEq, Bool.or_false, Bool.false_or, Bool.true_or, Bool.or_true]; rfl, by simp only [go_sem, reduceIte, Nat.reduceEqDiff, Nat.reduceAdd, Nat.reduceMul, Nat.reduceSub, Int.reduceLE, Int.reduceLT, Int.reduceNe, Int.reduceToNat, Int.reducePow, Int.reduceAdd, Int.reduceMul, reduceCtorEq, true_and, and_true, cond_true, cond_false, List.map_cons, List.map_nil, Option.map_some, Option.map_none, List.getElem?_cons_zero, List.getElem?_cons_succ, ne_eq, not_false_eq_true, List.nil_append, List.append_nil, List.cons_append, List.contains_cons, List.contains_nil, Nat.reduceBEq, Bool.or_false, Bool.false_or, Bool.true_or, Bool.or_true], by simp only [go_sem, reduceIte, Nat.reduceEqDiff, Nat.reduceAdd, Nat.reduceMul, Nat.reduceSub, Int.reduceLE, Int.reduceLT, Int.reduceNe, Int.reduceToNat, Int.reducePow, Int.reduceAdd, Int.reduceMul, reduceCtorEq, true_and, and_true, cond_true, cond_false, List.map_cons, List.map_nil, Option.map_some, Option.map_none, List.getElem?_cons_zero, List.getElem?_cons_succ, ne_eq, not_false_eq_true, List.nil_append, List.append_nil, List.cons_append, List.contains_cons, List.contains_nil, Nat.reduceBEq, Bool.or_false, Bool.false_or, Bool.true_or, Bool.or_true], by simp only [go_sem, reduceIte, Nat.reduceEqDiff, Nat.reduceAdd, Nat.reduceMul, Nat.reduceSub, Int.reduceLE, Int.reduceLT, Int.reduceNe, Int.reduceToNat, Int.reducePow, Int.reduceAdd, Int.reduceMul, reduceCtorEq, true_and, and_true, cond_true, cond_false, List.map_cons, List.map_nil, Option.map_some, Option.map_none, List.getElem?_cons_zero, List.getElem?_cons_succ, ne_eq, not_false_eq_true, List.nil_append, List.append_nil, List.cons_append, List.contains_cons, List.contains_nil, Nat.reduceBEq, Bool.or_false, Bool.false_or, Bool.true_or, Bool.or_true]; rfl⟩
    rintro k fr h6 ⟨i, rfl, hi, rfl, hf1, hf2, hf8, hf9, hf10⟩
    simp only [go_sem, reduceIte, Nat.reduceEqDiff, Nat.reduceAdd, Nat.reduceMul, Nat.reduceSub, Int.reduceLE, Int.reduceLT, Int.reduceNe, Int.reduceToNat, Int.reducePow, Int.reduceAdd, Int.reduceMul, reduceCtorEq, true_and, and_true, cond_true, cond_false, List.map_cons, List.map_nil, Option.map_some, Option.map_none, List.getElem?_cons_zero, List.getElem?_cons_succ, ne_eq, not_false_eq_true, List.nil_append, List.append_nil, List.cons_append, List.contains_cons, List.contains_nil, Nat.reduceBEq, Bool.or_false, Bool.false_or, Bool.true_or, Bool.or_true, hf1, hf2, hf8, hf9, hf10]
    refine condK_intro (fun hc => ?_) (fun hc => ?_)
    · have hc : i < 8 := by have := of_decide_eq_true hc; omega
      obtain ⟨p, e3, e4⟩ := index_bytes byte24 hb5 (k := .i64) (j := i) (by omega)
      have hix : x[i]? = some x[i] := List.getElem?_eq_getElem (by omega)
      have hcl : (x[i]).toNat < 256 := (x[i]).toNat_lt
      have hta := take_next hix
      have htl : (x.take i).length = i := by rw [List.length_take]; omega
      have hlt := leV_lt (x.take i)
      rw [htl] at hlt
      have hap := leV_append (x.take i) x[i]
      rw [htl] at hap
      have hp := pow8_le (k := i + 1) (by omega)
      rw [pow_split] at hp
      have hm : (x[i]).toNat * 2 ^ (8 * i) ≤ 255 * 2 ^ (8 * i) := Nat.mul_le_mul_right _ (by omega)
      have em : min (8 * i) 64 = 8 * i := by omega
      have o1 := shl_nat (x[i]).toNat (8 * i) (by omega)
      have o2 := or_add (leV (x.take i)) (x[i]).toNat (8 * i) hlt (by omega)
      simp only [go_sem, reduceIte, Nat.reduceEqDiff, Nat.reduceAdd, Nat.reduceMul, Nat.reduceSub, Int.reduceLE, Int.reduceLT, Int.reduceNe, Int.reduceToNat, Int.reducePow, Int.reduceAdd, Int.reduceMul, reduceCtorEq, true_and, and_true, cond_true, cond_false, List.map_cons, List.map_nil, Option.map_some, Option.map_none, List.getElem?_cons_zero, List.getElem?_cons_succ, ne_eq, not_false_eq_true, List.nil_append, List.append_nil, List.cons_append, List.contains_cons, List.contains_nil, Nat.reduceBEq, Bool.or_false, Bool.false_or, Bool.true_or, Bool.or_true, hf1, hf2, hf8, hf9, hf10, e3, e4, w_u64_in (x[i]).toNat (by omega), w_mul8 (show i ≤ 8 by omega), Int.natCast_nonneg, Int.toNat_natCast, em, o1, o2, w_inc (show i ≤ 1000000000 by omega)]
      refine ⟨8 - (i + 1), by omega, i + 1, rfl, by omega, ?_, rfl⟩
      rw [hta, hap]
    · have hc : i = 8 := by have := of_decide_eq_false hc; omega
      subst hc
      have htk : x.take 8 = x := by rw [← hxl]; exact List.take_length
      have hlt := leV_lt x
      rw [hxl] at hlt
      rw [htk] at hf2
      simp (discharger := first | assumption | omega | (simp only [next_push, next_set] <;> omega) | (simp only [List.length_cons, List.length_nil] <;> omega) | decide) only [go_sem, reduceIte, Nat.reduceEqDiff, Nat.reduceAdd, Nat.reduceMul, Nat.reduceSub, Int.reduceLE, Int.reduceLT, Int.reduceNe, Int.reduceToNat, Int.reducePow, Int.reduceAdd, Int.reduceMul, reduceCtorEq, true_and, and_true, cond_true, cond_false, List.map_cons, List.map_nil, Option.map_some, Option.map_none, List.getElem?_cons_zero, List.getElem?_cons_succ, ne_eq, not_false_eq_true, List.nil_append, List.append_nil, List.cons_append, List.contains_cons, List.contains_nil, Nat.reduceBEq, Bool.or_false, Bool.false_or, Bool.true_or, Bool.or_true, hf1, hf2, hf8, hf9, hf10, hg5,  CloO, aResults_nil (F := Try.f73) rfl, List.set_cons_zero]
      exact ⟨_, rfl, hr2.set_other h1 h2, keep_set_in (hk2.mono (by simp)) (by simp), _, get_set_same, rfl⟩

theorem take64_con {ri : Nat} {bv : AV} {bs : List UInt8} {at_ : Nat} {h : AH} (hr : RD h ri bv bs at_ 0) (hl : bs.length ≤ 140737488355328) :
    Con E0 sp0 100000 5 24 [.ptr ri 0] h (MeO ri bv bs at_ h (fixF 8 (bs.drop at_)) (.int .u64 0) fun x v _ => v = .int .u64 (x : Nat)) := by
  refine Con.of_body rfl fn24 fun n hn => ⟨rfl, ?_⟩
  conv in slim _ _ _ => cbv
  have hlt := hr.lt
  have hbl := hr.bv_lt
  have k1 : Keep h ((h.push (.cells [.ptr ri 0] 40 .own)).push (.cells [.int .u64 0] 25 .own)) [] := ((Keep.push h _).trans (Keep.push _ _)).mono (by simp)
  obtain ⟨h', v, e1, hg1, hk1, hv1, hm⟩ := reading_me (d := 3) (n := n) (vi := h.next + 1) (T := 25) (z := .int .u64 0) (V := fun (x : Nat) v _ => v = .int .u64 (x : Nat)) (F := fixF 8 (bs.drop at_)) hr k1 (g := 73) (caps := [.ptr h.next 0, .ptr (h.next + 1) 0]) (by rw [fn73]; rfl) (by omega) (by simp) (get_push_new (by simp))
    (fun r1 q1 => tkclo64_con r1 hl (by simp [rd_next]; omega) (by omega) (by rw [q1.get _ (by simp; omega) (by simp), get_push_old (by simp), get_push_new rfl]) (by simp [rd_next]) (by rw [q1.get _ (by simp) (by simp), get_push_new (by simp)]) (by omega) (fun j hj => by have := hbl j hj; omega)) (by omega)
  simp (discharger := first | assumption | omega | (simp only [next_push, next_set] <;> omega) | (simp only [List.length_cons, List.length_nil] <;> omega) | decide) only [go_sem, reduceIte, Nat.reduceEqDiff, Nat.reduceAdd, Nat.reduceMul, Nat.reduceSub, Int.reduceLE, Int.reduceLT, Int.reduceNe, Int.reduceToNat, Int.reducePow, Int.reduceAdd, Int.reduceMul, reduceCtorEq, true_and, and_true, cond_true, cond_false, List.map_cons, List.map_nil, Option.map_some, Option.map_none, List.getElem?_cons_zero, List.getElem?_cons_succ, ne_eq, not_false_eq_true, List.nil_append, List.append_nil, List.cons_append, List.contains_cons, List.contains_nil, Nat.reduceBEq, Bool.or_false, Bool.false_or, Bool.true_or, Bool.or_true, get_push_new, get_push_old, e1, hg1]
  cases hF : fixF 8 (bs.drop at_) with
  | ok x k =>
    rw [hF] at hm
    obtain ⟨m1, rfl⟩ := hm
    simp (discharger := first | assumption | omega | (simp only [next_push, next_set] <;> omega) | (simp only [List.length_cons, List.length_nil] <;> omega) | decide) only [go_sem, reduceIte, Nat.reduceEqDiff, Nat.reduceAdd, Nat.reduceMul, Nat.reduceSub, Int.reduceLE, Int.reduceLT, Int.reduceNe, Int.reduceToNat, Int.reducePow, Int.reduceAdd, Int.reduceMul, reduceCtorEq, true_and, and_true, cond_true, cond_false, List.map_cons, List.map_nil, Option.map_some, Option.map_none, List.getElem?_cons_zero, List.getElem?_cons_succ, ne_eq, not_false_eq_true, List.nil_append, List.append_nil, List.cons_append, List.contains_cons, List.contains_nil, Nat.reduceBEq, Bool.or_false, Bool.false_or, Bool.true_or, Bool.or_true, hg1, get_set_same, List.set_cons_zero, aResults_one (F := Try.f24) rfl, MeO]
    exact ⟨_, _, rfl, m1, hk1, rfl⟩
  | bad e =>
    rw [hF] at hm
    obtain ⟨rfl, m1⟩ := hm
    simp (discharger := first | assumption | omega | (simp only [next_push, next_set] <;> omega) | (simp only [List.length_cons, List.length_nil] <;> omega) | decide) only [go_sem, reduceIte, Nat.reduceEqDiff, Nat.reduceAdd, Nat.reduceMul, Nat.reduceSub, Int.reduceLE, Int.reduceLT, Int.reduceNe, Int.reduceToNat, Int.reducePow, Int.reduceAdd, Int.reduceMul, reduceCtorEq, true_and, and_true, cond_true, cond_false, List.map_cons, List.map_nil, Option.map_some, Option.map_none, List.getElem?_cons_zero, List.getElem?_cons_succ, ne_eq, not_false_eq_true, List.nil_append, List.append_nil, List.cons_append, List.contains_cons, List.contains_nil, Nat.reduceBEq, Bool.or_false, Bool.false_or, Bool.true_or, Bool.or_true, hg1, get_set_same, List.set_cons_zero, aResults_one (F := Try.f24) rfl, MeO]
    exact ⟨_, rfl, m1, hk1⟩
end Go.Proofs.Yteblojfcalgoeaa

/- Seat 1: codec.Texts; a faulted reader's Bytes. Conditions: none. -/
namespace Go.Proofs.Yteblojfcalgoeaa
open Go Go.RowKit
set_option maxRecDepth 100000
set_option linter.unusedSimpArgs false
set_option linter.unusedVariables false

def strs (ts : List (List UInt8)) : List AV := ts.map .str
theorem strs_len (ts : List (List UInt8)) : (strs ts).length = ts.length := by simp [strs]
theorem strs_atom (ts : List (List UInt8)) : (strs ts).all AV.atom = true := by simp [strs, AV.atom]
theorem strs_append (a b : List (List UInt8)) : strs (a ++ b) = strs a ++ strs b := by simp [strs]
theorem sl48 : slT E0 48 9 1 16 = true := by kernel_rfl
theorem seq48 : seqT E0 48 = true := by kernel_rfl
theorem build_text {h : AH} {s : List UInt8} : aBuildSlice E0 h 48 1 [(0, .str s)] = some (.sl h.next 0 1 1 false, h.push (.cells [.str s] 9 .own)) := by kernel_rfl
/-- A text is built and appended. -/
theorem append_text {h : AH} {v : AV} {ts : List (List UInt8)} (ho : OwnA 9 1 h v ts.length (strs ts)) {s : List UInt8} (hn : ts.length + 1 ≤ 1000000) :
    ∃ v' h', eBuiltin E0 (h.push (.cells [.str s] 9 .own)) .append [v, .sl h.next 0 1 1 false] [48, 48] = some (v', h') ∧ OwnA 9 1 h' v' (ts ++ [s]).length (strs (ts ++ [s])) ∧ Grew h h' v v' := by
  obtain ⟨v', h', h1, h2, h3⟩ := append_gen sl48 seq48 (ho.keep (Keep.push h (.cells [.str s] 9 .own)) (by simp)) (OwnA.own (h := h) (e := 9) (sz := 1) (n := 1) (cs := [.str s]) rfl rfl).gs.news rfl rfl (by omega)
  refine ⟨v', h', h1, ?_, h3.push⟩
  rw [strs_append, List.length_append]
  exact h2

theorem blocksF_len {each : Nat} : ∀ (n : Nat) (s : List UInt8) (l : List (List UInt8)) (k : Nat), blocksF each n s = .ok l k → l.length = n
  | 0, s, l, k, h => by simp only [blocksF] at h; cases h; rfl
  | n + 1, s, l, k, h => by
      simp only [blocksF] at h
      split at h
      · split at h
        · rename_i h2; cases h; simp [blocksF_len n _ _ _ h2]
        · cases h
      · cases h

theorem store_atom48 {v z : AV} {t' : TypeId} (ha : v.atom = true) : storeO E0 48 0 v (.cells [z] t' .own) = some (.cells [v] t' .own) := storeO_atom (by kernel_rfl) ha (by decide) (by simp)
theorem w_u64_inc {i : Nat} (hi : i ≤ 1000000000) : IntKind.u64.wrap ((i : Int) + 1) = ((i + 1 : Nat) : Int) := by rw [← w_u64_in (i + 1) (by omega)]; norm_cast

theorem tclo_con {ri bi mi ei vi : Nat} {bv : AV} {bs : List UInt8} {at_ : Nat} {H : AH} (hr : RD H ri bv bs at_ 0) (hl : bs.length ≤ 140737488355328) (most each : Nat) (hm : most ≤ 1000) (he : each ≤ 1000000) (hbl : bi < H.next) (hbr : bi ≠ ri) (hbg : H.get bi = .cells [.ptr ri 0] 40 .own)
    (hml : mi < H.next) (hmr : mi ≠ ri) (hmg : H.get mi = .cells [.int .i64 (most : Nat)] 3 .own) (hel : ei < H.next) (her : ei ≠ ri) (heg : H.get ei = .cells [.int .i64 (each : Nat)] 3 .own) (hv : vi < H.next) {z : AV} (hvg : H.get vi = .cells [z] 48 .own) (h1 : vi ≠ ri) (h2 : ∀ j ∈ ids bv, j ≠ vi) :
    Con E0 sp0 100000 5 80 [.ptr mi 0, .ptr ei 0, .ptr bi 0, .ptr vi 0] H (CloO ri bv bs at_ [vi] H (textsF most each (bs.drop at_)) fun x h2 => ∃ v, h2.get vi = .cells [v] 48 .own ∧ OwnA 9 1 h2 v x.length (strs x) ∧ vi ∉ ids v) := by
  refine Con.of_body rfl fn80 fun n hn => ⟨rfl, ?_⟩
  conv in slim _ _ _ => cbv
  obtain ⟨_, e0, rfl⟩ := must_t 2 H n (by omega)
  have d0 : decide ((0 : Int) ≤ (most : Int)) = true := decide_eq_true (by omega)
  have d1 : decide ((0 : Int) ≤ (each : Int)) = true := decide_eq_true (by omega)
  obtain ⟨out, e1, ho⟩ := number_con hr hl n (by omega)
  unfold textsF
  cases hF : numF 0 0 (bs.drop at_) with
  | bad e =>
    rw [hF] at ho
    obtain ⟨h3, at2, rfl, hr2, hk2⟩ := ho
    simp only [go_sem, reduceIte, Nat.reduceEqDiff, Nat.reduceAdd, Nat.reduceMul, Nat.reduceSub, Int.reduceLE, Int.reduceLT, Int.reduceNe, Int.reduceToNat, Int.reducePow, Int.reduceAdd, Int.reduceMul, reduceCtorEq, true_and, and_true, cond_true, cond_false, List.map_cons, List.map_nil, Option.map_some, Option.map_none, List.getElem?_cons_zero, List.getElem?_cons_succ, ne_eq, not_false_eq_true, List.nil_append, List.append_nil, List.cons_append, List.contains_cons, List.contains_nil, Nat.reduceBEq, Bool.or_false, Bool.false_or, Bool.true_or, Bool.or_true, hbg, hmg, heg, d0, d1, e0, e1, CloO]
    exact ⟨_, _, rfl, hr2, hk2⟩
  | ok x k =>
    rw [hF] at ho
    obtain ⟨v, h5, rfl, hr2, hk2, rfl, hx⟩ := ho
    have hb5 : h5.get bi = .cells [.ptr ri 0] 40 .own := by rw [hk2.get _ hbl (by simpa using hbr)]; exact hbg
    have hm5 : h5.get mi = .cells [.int .i64 (most : Nat)] 3 .own := by rw [hk2.get _ hml (by simpa using hmr)]; exact hmg
    by_cases hc : x ≤ most
    case neg =>
      obtain ⟨_, e2, rfl⟩ := must_f 71 h5 n (by omega)
      have d2 : decide ((x : Int) ≤ (most : Int)) = false := decide_eq_false (by omega)
      simp only [go_sem, reduceIte, Nat.reduceEqDiff, Nat.reduceAdd, Nat.reduceMul, Nat.reduceSub, Int.reduceLE, Int.reduceLT, Int.reduceNe, Int.reduceToNat, Int.reducePow, Int.reduceAdd, Int.reduceMul, reduceCtorEq, true_and, and_true, cond_true, cond_false, List.map_cons, List.map_nil, Option.map_some, Option.map_none, List.getElem?_cons_zero, List.getElem?_cons_succ, ne_eq, not_false_eq_true, List.nil_append, List.append_nil, List.cons_append, List.contains_cons, List.contains_nil, Nat.reduceBEq, Bool.or_false, Bool.false_or, Bool.true_or, Bool.or_true, hbg, hmg, heg, hm5, d0, d1, d2, e0, e1, e2, w_u64_in most (by omega), if_neg hc, CloO]
      exact ⟨_, _, rfl, hr2, hk2⟩
    case pos =>
    obtain ⟨_, e2, rfl⟩ := must_t 71 h5 n (by omega)
    have d2 : decide ((x : Int) ≤ (most : Int)) = true := decide_eq_true (by omega)
    simp only [go_sem, reduceIte, Nat.reduceEqDiff, Nat.reduceAdd, Nat.reduceMul, Nat.reduceSub, Int.reduceLE, Int.reduceLT, Int.reduceNe, Int.reduceToNat, Int.reducePow, Int.reduceAdd, Int.reduceMul, reduceCtorEq, true_and, and_true, cond_true, cond_false, List.map_cons, List.map_nil, Option.map_some, Option.map_none, List.getElem?_cons_zero, List.getElem?_cons_succ, ne_eq, not_false_eq_true, List.nil_append, List.append_nil, List.cons_append, List.contains_cons, List.contains_nil, Nat.reduceBEq, Bool.or_false, Bool.false_or, Bool.true_or, Bool.or_true, hbg, hmg, heg, hm5, d0, d1, d2, e0, e1, e2, w_u64_in most (by omega), if_pos hc]
    refine wLoop_inv (fun w fr h6 => ∃ i v ts k', w = x - i ∧ i ≤ x ∧ fr 0 = .ptr mi 0 ∧ fr 1 = .ptr ei 0 ∧ fr 2 = .ptr bi 0 ∧ fr 3 = .ptr vi 0 ∧ fr 5 = v ∧ fr 20 = .int .u64 (x : Nat) ∧ fr 21 = .int .u64 (i : Nat) ∧ OwnA 9 1 h6 v ts.length (strs ts) ∧ ts.length = i ∧ RD h6 ri bv bs (at_ + k') 0 ∧ Keep H h6 [ri] ∧ (∀ j ∈ ids v, H.next ≤ j) ∧
      afterF [] k (blocksF each x ((bs.drop at_).drop k)) = afterF ts k' (blocksF each (x - i) ((bs.drop at_).drop k'))) ?_ 100000 x _ _ (by omega)
      ⟨0, .nils, [], k, rfl, by omega, by simp only [go_sem, reduceIte, Nat.reduceEqDiff, Nat.reduceAdd, Nat.reduceMul, Nat.reduceSub, Int.reduceLE, Int.reduceLT, Int.reduceNe, Int.reduceToNat, Int.reducePow, Int.reduceAdd, Int.reduceMul, reduceCtorEq, true_and, and_true, cond_true, cond_false, List.map_cons, List.map_nil, Option.map_some, Option.map_none, List.getElem?_cons_zero, List.getElem?_cons_succ, ne_eq, not_false_eq_true, List.nil_append, List.append_nil, List.cons_append, List.contains_cons, List.contains_nil, Nat.reduceBEq, Bool.or_false, Bool.false_or, Bool.true_or, Bool.or_true], by simp only [go_sem, reduceIte, Nat.reduceEqDiff, Nat.reduceAdd, Nat.reduceMul, Nat.reduceSub, Int.reduceLE, Int.reduceLT, Int.reduceNe, Int.reduceToNat, Int.reducePow, Int.reduceAdd, Int.reduceMul, reduceCtorEq, true_and, and_true, cond_true, cond_false, List.map_cons, List.map_nil, Option.map_some, Option.map_none, List.getElem?_cons_zero, List.getElem?_cons_succ, ne_eq, not_false_eq_true, List.nil_append, List.append_nil, List.cons_append, List.contains_cons, List.contains_nil, Nat.reduceBEq, Bool.or_false, Bool.false_or, Bool.true_or, Bool.or_true], by simp only [go_sem, reduceIte, Nat.reduceEqDiff, Nat.reduceAdd, Nat.reduceMul, Nat.reduceSub, Int.reduceLE, Int.reduceLT, Int.reduceNe, Int.reduceToNat, Int.reducePow, Int.reduceAdd, Int.reduceMul, reduceCtorEq, true_and, and_true, cond_true, cond_false, List.map_cons, List.map_nil, Option.map_some, Option.map_none, List.getElem?_cons_zero, List.getElem?_cons_succ, ne_eq, not_false_eq_true, List.nil_append, List.append_nil, List.cons_append, List.contains_cons, List.contains_nil, Nat.reduceBEq, Bool.or_false, Bool.false_or, Bool.true_or, Bool.or_true], by simp only [go_sem, reduceIte, Nat.reduceEqDiff, Nat.reduceAdd, Nat.reduceMul, Nat.reduceSub, Int.reduceLE, Int.reduceLT, Int.reduceNe, Int.reduceToNat, Int.reducePow, Int.reduceAdd, Int.reduceMul, reduceCtorEq, true_and, and_true, cond_true, cond_false, List.map_cons, List.map_nil, Option.map_some, Option.map_none, List.getElem?_cons_zero, List.getElem?_cons_succ, ne_eq, not_false_eq_true, List.nil_append, List.append_nil, List.cons_append, List.contains_cons, List.contains_nil, Nat.reduceBEq, Bool.or_false, Bool.false_or, Bool.true_or, Bool.or_true], by simp only [go_sem, reduceIte, Nat.reduceEqDiff, Nat.reduceAdd, Nat.reduceMul, Nat.reduceSub, Int.reduceLE, Int.reduceLT, Int.reduceNe, Int.reduceToNat, Int.reducePow, Int.reduceAdd, Int.reduceMul, reduceCtorEq, true_and, and_true, cond_true, cond_false, List.map_cons, List.map_nil, Option.map_some, Option.map_none, List.getElem?_cons_zero, List.getElem?_cons_succ, ne_eq, not_false_eq_true, List.nil_append, List.append_nil, List.cons_append, List.contains_cons, List.contains_nil, Nat.reduceBEq, Bool.or_false, Bool.false_or, Bool.true_or, Bool.or_true], by simp only [go_sem, reduceIte, Nat.reduceEqDiff, Nat.reduceAdd, Nat.reduceMul, Nat.reduceSub, Int.reduceLE, Int.reduceLT, Int.reduceNe, Int.reduceToNat, Int.reducePow, Int.reduceAdd, Int.reduceMul, reduceCtorEq, true_and, and_true, cond_true, cond_false, List.map_cons, List.map_nil, Option.map_some, Option.map_none, List.getElem?_cons_zero, List.getElem?_cons_succ, ne_eq, not_false_eq_true, List.nil_append, List.append_nil, List.cons_append, List.contains_cons, List.contains_nil, Nat.reduceBEq, Bool.or_false, Bool.false_or, Bool.true_or, Bool.or_true], by simp only [go_sem, reduceIte, Nat.reduceEqDiff, Nat.reduceAdd, Nat.reduceMul, Nat.reduceSub, Int.reduceLE, Int.reduceLT, Int.reduceNe, Int.reduceToNat, Int.reducePow, Int.reduceAdd, Int.reduceMul, reduceCtorEq, true_and, and_true, cond_true, cond_false, List.map_cons, List.map_nil, Option.map_some, Option.map_none, List.getElem?_cons_zero, List.getElem?_cons_succ, ne_eq, not_false_eq_true, List.nil_append, List.append_nil, List.cons_append, List.contains_cons, List.contains_nil, Nat.reduceBEq, Bool.or_false, Bool.false_or, Bool.true_or, Bool.or_true]; rfl, OwnA.nil, rfl, hr2, hk2, by simp [ids], rfl⟩
    rintro w fr h6 ⟨i, v, ts, k', rfl, hi, hf0, hf1, hf2, hf3, hf5, hf20, hf21, hov, hts, hr6, hk6, hfr, hF6⟩
    rw [hF6]
    simp only [go_sem, reduceIte, Nat.reduceEqDiff, Nat.reduceAdd, Nat.reduceMul, Nat.reduceSub, Int.reduceLE, Int.reduceLT, Int.reduceNe, Int.reduceToNat, Int.reducePow, Int.reduceAdd, Int.reduceMul, reduceCtorEq, true_and, and_true, cond_true, cond_false, List.map_cons, List.map_nil, Option.map_some, Option.map_none, List.getElem?_cons_zero, List.getElem?_cons_succ, ne_eq, not_false_eq_true, List.nil_append, List.append_nil, List.cons_append, List.contains_cons, List.contains_nil, Nat.reduceBEq, Bool.or_false, Bool.false_or, Bool.true_or, Bool.or_true, hf0, hf1, hf2, hf3, hf5, hf20, hf21]
    have hb6 : h6.get bi = .cells [.ptr ri 0] 40 .own := by rw [hk6.get _ hbl (by simpa using hbr)]; exact hbg
    have he6 : h6.get ei = .cells [.int .i64 (each : Nat)] 3 .own := by rw [hk6.get _ hel (by simpa using her)]; exact heg
    have hv6 : h6.get vi = .cells [z] 48 .own := by rw [hk6.get _ hv (by simpa using h1)]; exact hvg
    refine condK_intro (fun hc => ?_) (fun hc => ?_)
    · have hc : i < x := by have := of_decide_eq_true hc; omega
      obtain ⟨out, e3, ho⟩ := block_con hr6 hl each he n (by omega)
      rw [← List.drop_drop] at ho
      have hxi : x - i = (x - (i + 1)) + 1 := by omega
      rw [hxi]
      simp only [blocksF]
      cases hB : blockF each ((bs.drop at_).drop k') with
      | bad e =>
        rw [hB] at ho
        obtain ⟨h7, at2, rfl, hr7, hk7⟩ := ho
        simp only [go_sem, reduceIte, Nat.reduceEqDiff, Nat.reduceAdd, Nat.reduceMul, Nat.reduceSub, Int.reduceLE, Int.reduceLT, Int.reduceNe, Int.reduceToNat, Int.reducePow, Int.reduceAdd, Int.reduceMul, reduceCtorEq, true_and, and_true, cond_true, cond_false, List.map_cons, List.map_nil, Option.map_some, Option.map_none, List.getElem?_cons_zero, List.getElem?_cons_succ, ne_eq, not_false_eq_true, List.nil_append, List.append_nil, List.cons_append, List.contains_cons, List.contains_nil, Nat.reduceBEq, Bool.or_false, Bool.false_or, Bool.true_or, Bool.or_true, hf0, hf1, hf2, hf3, hf5, hf20, hf21, hb6, he6, e3, CloO, afterF]
        exact ⟨_, _, rfl, hr7, (hk6.trans hk7).mono (by simp)⟩
      | ok s m =>
        rw [hB] at ho
        obtain ⟨v7, h7, rfl, hr7, hk7, hb7, hi7⟩ := ho
        have ov7 : OwnA 9 1 h7 v ts.length (strs ts) := hov.keep hk7 (fun j hj hx => by have := hfr j hj; simp at hx; subst hx; have := hr.lt; omega)
        obtain ⟨v8, h8, e8, ho8, hg8⟩ := append_text (s := s) ov7 (by omega)
        have hn8 : Keep H h8 [ri] := ((hk6.trans hk7).trans hg8.keep).mono (fun j hj hlt => by
          simp at hj
          rcases hj with hj | hj
          · simpa using hj
          · have := hfr j hj; omega)
        have hk78 : Keep h7 h8 (ids v) := hg8.keep
        simp only [go_sem, reduceIte, Nat.reduceEqDiff, Nat.reduceAdd, Nat.reduceMul, Nat.reduceSub, Int.reduceLE, Int.reduceLT, Int.reduceNe, Int.reduceToNat, Int.reducePow, Int.reduceAdd, Int.reduceMul, reduceCtorEq, true_and, and_true, cond_true, cond_false, List.map_cons, List.map_nil, Option.map_some, Option.map_none, List.getElem?_cons_zero, List.getElem?_cons_succ, ne_eq, not_false_eq_true, List.nil_append, List.append_nil, List.cons_append, List.contains_cons, List.contains_nil, Nat.reduceBEq, Bool.or_false, Bool.false_or, Bool.true_or, Bool.or_true, hf0, hf1, hf2, hf3, hf5, hf20, hf21, hb6, he6, e3, conv_bytes byte24 str9 hb7, build_text, e8, w_u64_inc (show i ≤ 1000000000 by omega)]
        refine ⟨x - (i + 1), by omega, i + 1, v8, ts ++ [s], k' + m, rfl, by omega, rfl, rfl, ho8, by simp [hts], ?_, hn8, fun j hj => ?_, ?_⟩
        · rw [Nat.add_assoc] at hr7
          refine hr7.keep hk78 (fun hx => ?_) (fun j hj hx => ?_)
          · have := hfr _ hx; have := hr.lt; omega
          · have := hfr _ hx; have := hr.bv_lt j hj; omega
        · rcases hg8.fresh j hj with h9 | h9
          · exact hfr j h9
          · have := hk6.next; have := hk7.next; omega
        · rw [← List.drop_drop]
          cases blocksF each (x - (i + 1)) (((bs.drop at_).drop k').drop m) with
          | ok l k2 => simp [afterF, Nat.add_assoc]
          | bad e => rfl
    · have hc : i = x := by have := of_decide_eq_false hc; omega
      subst hc
      simp only [Nat.sub_self, blocksF, afterF, List.append_nil, Nat.add_zero]
      have hni : vi ∉ ids v := fun hx => by have := hfr _ hx; omega
      simp only [go_sem, reduceIte, Nat.reduceEqDiff, Nat.reduceAdd, Nat.reduceMul, Nat.reduceSub, Int.reduceLE, Int.reduceLT, Int.reduceNe, Int.reduceToNat, Int.reducePow, Int.reduceAdd, Int.reduceMul, reduceCtorEq, true_and, and_true, cond_true, cond_false, List.map_cons, List.map_nil, Option.map_some, Option.map_none, List.getElem?_cons_zero, List.getElem?_cons_succ, ne_eq, not_false_eq_true, List.nil_append, List.append_nil, List.cons_append, List.contains_cons, List.contains_nil, Nat.reduceBEq, Bool.or_false, Bool.false_or, Bool.true_or, Bool.or_true, hf0, hf1, hf2, hf3, hf5, hf20, hf21, hv6, store_atom48 hov.atom, CloO, aResults_nil (F := Try.f80) rfl]
      exact ⟨_, rfl, hr6.set_other h1 h2, keep_set_in (hk6.mono (by simp)) (by simp), _, get_set_same, hov.keep (Keep.set h6 vi _) (fun i hi hx => hni (by simp at hx; exact hx ▸ hi)), hni⟩

theorem texts_con {ri : Nat} {bv : AV} {bs : List UInt8} {at_ : Nat} {h : AH} (hr : RD h ri bv bs at_ 0) (hl : bs.length ≤ 140737488355328) (most each : Nat) (hm : most ≤ 1000) (he : each ≤ 1000000) :
    Con E0 sp0 100000 7 28 [.ptr ri 0, .int .i64 most, .int .i64 each] h (MeO ri bv bs at_ h (textsF most each (bs.drop at_)) .nils fun x v h2 => GS 1 h2 v x.length (strs x)) := by
  refine Con.of_body rfl fn28 fun n hn => ⟨rfl, ?_⟩
  conv in slim _ _ _ => cbv
  have hlt := hr.lt
  have hbl := hr.bv_lt
  have k1 : Keep h ((((h.push (.cells [.ptr ri 0] 40 .own)).push (.cells [.int .i64 (most : Nat)] 3 .own)).push (.cells [.int .i64 (each : Nat)] 3 .own)).push (.cells [.nils] 48 .own)) [] := ((((Keep.push h _).trans (Keep.push _ _)).trans (Keep.push _ _)).trans (Keep.push _ _)).mono (by simp)
  obtain ⟨h', v, e1, hg1, hk1, hv1, hm⟩ := reading_me (d := 5) (n := n) (vi := h.next + 3) (T := 48) (z := .nils) (V := fun (x : List (List UInt8)) v h2 => OwnA 9 1 h2 v x.length (strs x) ∧ h.next + 3 ∉ ids v) (F := textsF most each (bs.drop at_)) hr k1 (g := 80) (caps := [.ptr (h.next + 1) 0, .ptr (h.next + 2) 0, .ptr h.next 0, .ptr (h.next + 3) 0]) (by rw [fn80]; rfl) (by omega) (by simp) (get_push_new (by simp))
    (fun r1 q1 => tclo_con r1 hl most each hm he (by simp [rd_next]; omega) (by omega) (by rw [q1.get _ (by simp; omega) (by simp), get_push_old (by simp; omega), get_push_old (by simp; omega), get_push_old (by simp), get_push_new rfl])
      (by simp [rd_next]) (by omega) (by rw [q1.get _ (by simp) (by simp), get_push_old (by simp), get_push_old (by simp), get_push_new (by simp)])
      (by simp [rd_next]) (by omega) (by rw [q1.get _ (by simp) (by simp), get_push_old (by simp), get_push_new (by simp)]) (by simp [rd_next]) (by rw [q1.get _ (by simp) (by simp), get_push_new (by simp)]) (by omega) (fun j hj => by have := hbl j hj; omega)) (by omega)
  simp (discharger := first | assumption | omega | (simp only [next_push, next_set] <;> omega) | (simp only [List.length_cons, List.length_nil] <;> omega) | decide) only [go_sem, reduceIte, Nat.reduceEqDiff, Nat.reduceAdd, Nat.reduceMul, Nat.reduceSub, Int.reduceLE, Int.reduceLT, Int.reduceNe, Int.reduceToNat, Int.reducePow, Int.reduceAdd, Int.reduceMul, reduceCtorEq, true_and, and_true, cond_true, cond_false, List.map_cons, List.map_nil, Option.map_some, Option.map_none, List.getElem?_cons_zero, List.getElem?_cons_succ, ne_eq, not_false_eq_true, List.nil_append, List.append_nil, List.cons_append, List.contains_cons, List.contains_nil, Nat.reduceBEq, Bool.or_false, Bool.false_or, Bool.true_or, Bool.or_true, get_push_new, get_push_old, e1, hg1]
  cases hF : textsF most each (bs.drop at_) with
  | ok x k =>
    rw [hF] at hm
    obtain ⟨m1, m2, m3⟩ := hm
    simp (discharger := first | assumption | omega | (simp only [next_push, next_set] <;> omega) | (simp only [List.length_cons, List.length_nil] <;> omega) | decide) only [go_sem, reduceIte, Nat.reduceEqDiff, Nat.reduceAdd, Nat.reduceMul, Nat.reduceSub, Int.reduceLE, Int.reduceLT, Int.reduceNe, Int.reduceToNat, Int.reducePow, Int.reduceAdd, Int.reduceMul, reduceCtorEq, true_and, and_true, cond_true, cond_false, List.map_cons, List.map_nil, Option.map_some, Option.map_none, List.getElem?_cons_zero, List.getElem?_cons_succ, ne_eq, not_false_eq_true, List.nil_append, List.append_nil, List.cons_append, List.contains_cons, List.contains_nil, Nat.reduceBEq, Bool.or_false, Bool.false_or, Bool.true_or, Bool.or_true, hg1, store_atom48 m2.atom, get_set_same, List.set_cons_zero, aResults_cell (F := Try.f28) rfl, MeO]
    exact ⟨_, _, rfl, m1.set_other (by omega) (fun j hj => by have := hbl j hj; omega), keep_set hk1 (by omega), (m2.keep (Keep.set h' _ _) (fun i hi hx => m3 (by simp at hx; exact hx ▸ hi))).gs⟩
  | bad e =>
    rw [hF] at hm
    obtain ⟨rfl, m1⟩ := hm
    simp (discharger := first | assumption | omega | (simp only [next_push, next_set] <;> omega) | (simp only [List.length_cons, List.length_nil] <;> omega) | decide) only [go_sem, reduceIte, Nat.reduceEqDiff, Nat.reduceAdd, Nat.reduceMul, Nat.reduceSub, Int.reduceLE, Int.reduceLT, Int.reduceNe, Int.reduceToNat, Int.reducePow, Int.reduceAdd, Int.reduceMul, reduceCtorEq, true_and, and_true, cond_true, cond_false, List.map_cons, List.map_nil, Option.map_some, Option.map_none, List.getElem?_cons_zero, List.getElem?_cons_succ, ne_eq, not_false_eq_true, List.nil_append, List.append_nil, List.cons_append, List.contains_cons, List.contains_nil, Nat.reduceBEq, Bool.or_false, Bool.false_or, Bool.true_or, Bool.or_true, hg1, store_atom48 (show AV.nils.atom = true from rfl), get_set_same, List.set_cons_zero, aResults_cell (F := Try.f28) rfl, MeO]
    exact ⟨_, rfl, m1.set_other (by omega) (fun j hj => by have := hbl j hj; omega), keep_set hk1 (by omega)⟩
end Go.Proofs.Yteblojfcalgoeaa

/- Seat 1: a faulted reader's Bytes; items in memory. Conditions: none. -/
namespace Go.Proofs.Yteblojfcalgoeaa
open Go Go.RowKit
set_option maxRecDepth 100000
set_option linter.unusedSimpArgs false
set_option linter.unusedVariables false

theorem reading_faulted {ri : Nat} {bv : AV} {bs : List UInt8} {at_ : Nat} {ft : Int} {h : AH} (hr : RD h ri bv bs at_ ft) (hf : ft ≠ 0) (f : AV) : Con E0 sp0 100000 1 68 [.ptr ri 0, f] h fun o => ∃ h2, o = .ret (.tup []) h2 ∧ Keep h h2 [] := by
  refine Con.of_defer sp68 D0_of fun n hn => ⟨rfl, ?_⟩
  have d1 : (ft != 0) = true := by simp [hf]
  have hlt := hr.lt
  conv in slim _ _ _ => cbv
  simp only [go_sem, reduceIte, Nat.reduceEqDiff, Nat.reduceAdd, Nat.reduceMul, Nat.reduceSub, Int.reduceLE, Int.reduceLT, Int.reduceNe, Int.reduceToNat, Int.reducePow, Int.reduceAdd, Int.reduceMul, reduceCtorEq, true_and, and_true, cond_true, cond_false, List.map_cons, List.map_nil, Option.map_some, Option.map_none, List.getElem?_cons_zero, List.getElem?_cons_succ, ne_eq, not_false_eq_true, List.nil_append, List.append_nil, List.cons_append, List.contains_cons, List.contains_nil, Nat.reduceBEq, Bool.or_false, Bool.false_or, Bool.true_or, Bool.or_true]
  conv in slim _ _ _ => cbv
  simp (discharger := first | assumption | omega | (simp only [next_push, next_set] <;> omega) | (simp only [List.length_cons, List.length_nil] <;> omega) | decide) only [go_sem, reduceIte, Nat.reduceEqDiff, Nat.reduceAdd, Nat.reduceMul, Nat.reduceSub, Int.reduceLE, Int.reduceLT, Int.reduceNe, Int.reduceToNat, Int.reducePow, Int.reduceAdd, Int.reduceMul, reduceCtorEq, true_and, and_true, cond_true, cond_false, List.map_cons, List.map_nil, Option.map_some, Option.map_none, List.getElem?_cons_zero, List.getElem?_cons_succ, ne_eq, not_false_eq_true, List.nil_append, List.append_nil, List.cons_append, List.contains_cons, List.contains_nil, Nat.reduceBEq, Bool.or_false, Bool.false_or, Bool.true_or, Bool.or_true, get_push_new, get_push_old, hr.get, d1]
  exact ⟨_, rfl, Keep.push h _⟩

theorem bytes_faulted {ri : Nat} {bv : AV} {bs : List UInt8} {at_ : Nat} {ft : Int} {h : AH} (hr : RD h ri bv bs at_ ft) (hf : ft ≠ 0) (x : Int) : Con E0 sp0 100000 2 32 [.ptr ri 0, .int .i64 x] h fun o => ∃ h2, o = .ret .nils h2 ∧ Keep h h2 [] := by
  refine Con.of_body rfl fn32 fun n hn => ⟨rfl, ?_⟩
  conv in slim _ _ _ => cbv
  have hlt := hr.lt
  have hbl := hr.bv_lt
  have k1 : Keep h (((h.push (.cells [.ptr ri 0] 40 .own)).push (.cells [.int .i64 x] 3 .own)).push (.cells [.nils] 24 .own)) [] := (((Keep.push h _).trans (Keep.push _ _)).trans (Keep.push _ _)).mono (by simp)
  have hg : (((h.push (.cells [.ptr ri 0] 40 .own)).push (.cells [.int .i64 x] 3 .own)).push (.cells [.nils] 24 .own)).get (h.next + 2) = .cells [.nils] 24 .own := get_push_new (by simp)
  obtain ⟨_, e1, h2, rfl, hk2⟩ := reading_faulted (hr.keep k1 (by simp) (by simp)) hf (.fn (.func 81) [] [.ptr (h.next + 1) 0, .ptr h.next 0, .ptr (h.next + 2) 0]) n hn
  have hg2 : h2.get (h.next + 2) = .cells [.nils] 24 .own := by rw [hk2.get _ (by simp) (by simp)]; exact hg
  simp (discharger := first | assumption | omega | (simp only [next_push, next_set] <;> omega) | (simp only [List.length_cons, List.length_nil] <;> omega) | decide) only [go_sem, reduceIte, Nat.reduceEqDiff, Nat.reduceAdd, Nat.reduceMul, Nat.reduceSub, Int.reduceLE, Int.reduceLT, Int.reduceNe, Int.reduceToNat, Int.reducePow, Int.reduceAdd, Int.reduceMul, reduceCtorEq, true_and, and_true, cond_true, cond_false, List.map_cons, List.map_nil, Option.map_some, Option.map_none, List.getElem?_cons_zero, List.getElem?_cons_succ, ne_eq, not_false_eq_true, List.nil_append, List.append_nil, List.cons_append, List.contains_cons, List.contains_nil, Nat.reduceBEq, Bool.or_false, Bool.false_or, Bool.true_or, Bool.or_true, get_push_new, get_push_old, e1, hg2, store_atom24 (show AV.nils.atom = true from rfl), get_set_same, aResults_cell (F := Try.f32) rfl]
  exact ⟨_, rfl, keep_set ((k1.trans hk2).mono (by simp)) (by omega)⟩

/-! ### Items -/
structure It where
  kind : Nat
  n : Nat
  raw : List UInt8

structure ItOK (B : Nat) (h : AH) (cs : List AV) (j : Nat) (x : It) (rv : AV) : Prop where
  c0 : cs[j * 3 + 0]? = some (.int .u8 (x.kind : Nat))
  c1 : cs[j * 3 + 1]? = some (.int .u64 (x.n : Nat))
  c2 : cs[j * 3 + 2]? = some rv
  raw : BS h rv x.raw
  atom : rv.atom = true
  ids : ∀ i ∈ ids rv, i < B
  kind : x.kind < 256
  n : x.n < 18446744073709551616
/-- A slice of items, in memory that stays. -/
def ItS (B : Nat) (h : AH) (v : AV) (l : List It) : Prop :=
  B ≤ h.next ∧ (∀ i ∈ ids v, i < B) ∧ ∃ cs, GS 3 h v l.length cs ∧ ∀ (j : Nat) (x : It), l[j]? = some x → ∃ rv, ItOK B h cs j x rv
theorem ItS.keep {B : Nat} {h h' : AH} {v : AV} {l : List It} {S : List Nat} (hi : ItS B h v l) (k : Keep h h' S) (hS : ∀ i ∈ S, B ≤ i) : ItS B h' v l := by
  obtain ⟨h1, h2, cs, h3, h4⟩ := hi
  refine ⟨Nat.le_trans h1 k.next, h2, cs, h3.keep k (fun i hi hx => by have := h2 i hi; have := hS i hx; omega), fun j x hx => ?_⟩
  obtain ⟨rv, a⟩ := h4 j x hx
  exact ⟨rv, a.c0, a.c1, a.c2, a.raw.keep k (fun i hi hx => by have := a.ids i hi; have := hS i hx; omega), a.atom, a.ids, a.kind, a.n⟩

theorem sl22 : slT E0 22 27 3 40 = true := by kernel_rfl
theorem agg27 : aggT E0 27 = some 3 := by kernel_rfl
@[go_sem] theorem alloc_27 {K : Caller} {fr : Nat → AV} {h : AH} : aStep E0 K false fr h (.alloc 27) = some (.val (.ptr h.next 0) (h.push (.cells [.int .u8 0, .int .u64 0, .nils] 27 .own))) := st_alloc (z := .agg [.int .u8 0, .int .u64 0, .nils]) (by kernel_rfl)
@[go_sem] theorem fa_27_0 {i o : Nat} : aFieldAt E0 27 (.ptr i o) 0 = some (.ptr i (o + 0)) := aFieldAt_ptr (by kernel_rfl)
@[go_sem] theorem fa_27_1 {i o : Nat} : aFieldAt E0 27 (.ptr i o) 1 = some (.ptr i (o + 1)) := aFieldAt_ptr (by kernel_rfl)
@[go_sem] theorem fa_27_2 {i o : Nat} : aFieldAt E0 27 (.ptr i o) 2 = some (.ptr i (o + 2)) := aFieldAt_ptr (by kernel_rfl)
theorem store27 {a b c d e f : AV} (ha : a.atom = true) (hb : b.atom = true) (hc : c.atom = true) : storeO E0 27 0 (.agg [a, b, c]) (.cells [d, e, f] 27 .own) = some (.cells [a, b, c] 27 .own) := by
  have hs : sizeT E0 27 = some 3 := by kernel_rfl
  unfold sizeT at hs
  split at hs
  case h_2 => cases hs
  rename_i ti e1
  have hsz : ti.size = 3 := by simpa using hs
  simp [storeO, e1, AV.good, AV.cells, ha, hb, hc, hsz, setFrom]
  rfl

theorem drop3 {cs : List AV} {o : Nat} {a b c : AV} (h0 : cs[o + 0]? = some a) (h1 : cs[o + 1]? = some b) (h2 : cs[o + 2]? = some c) : (cs.drop o).take 3 = [a, b, c] := by
  apply List.ext_getElem?
  intro i
  rw [List.getElem?_take]
  by_cases hi : i < 3
  · rw [if_pos hi, List.getElem?_drop]
    rcases (by omega : i = 0 ∨ i = 1 ∨ i = 2) with rfl | rfl | rfl
    · rw [h0]; rfl
    · rw [h1]; rfl
    · rw [h2]; rfl
  · rw [if_neg hi]
    simp
    omega
theorem ItS.load {B : Nat} {h : AH} {v : AV} {l : List It} (hi : ItS B h v l) {j : Nat} {x : It} (hx : l[j]? = some x) :
    ∃ p rv, aIndexAt E0 22 v (.int .i64 j) = some p ∧ aLoad E0 h 27 p = some (.agg [.int .u8 (x.kind : Nat), .int .u64 (x.n : Nat), rv]) ∧ BS h rv x.raw ∧ rv.atom = true ∧ (∀ i ∈ ids rv, i < B) ∧ x.kind < 256 ∧ x.n < 18446744073709551616 := by
  obtain ⟨h1, h2, cs, h3, h4⟩ := hi
  obtain ⟨rv, a⟩ := h4 j x hx
  have hlt := (List.getElem?_eq_some_iff.1 hx).1
  obtain ⟨i, o, e1, _, cs', t', m, e2, e3, e4⟩ := index_gen sl22 h3 (k := .i64) hlt
  refine ⟨_, rv, e1, ?_, a.raw, a.atom, a.ids, a.kind, a.n⟩
  rw [aLoad_ptr, e2, loadAt_agg agg27 e3, drop3 (by rw [e4 0 (by omega)]; exact a.c0) (by rw [e4 1 (by omega)]; exact a.c1) (by rw [e4 2 (by omega)]; exact a.c2)]

theorem min_nat (a b : Nat) : (if (b : Int) < (a : Int) then (b : Int) else (a : Int)) = ((min a b : Nat) : Int) := by
  split <;> omega
theorem min12 (a : Nat) : (if (12 : Int) < (a : Int) then (12 : Int) else (a : Int)) = ((min a 12 : Nat) : Int) := min_nat a 12
theorem take_min {α : Type} (l : List α) (k : Nat) : l.take (min l.length k) = l.take k := by
  rcases Nat.le_total l.length k with h | h
  · rw [Nat.min_eq_left h, List.take_length, List.take_of_length_le h]
  · rw [Nat.min_eq_right h]
/-- The first bytes of a slice. -/
theorem slice_first {h : AH} {v : AV} {bs : List UInt8} (hb : BS h v bs) {k : Nat} (hk : k ≤ bs.length) :
    ∃ v', aSlice E0 24 v none (some (.int .i64 (k : Nat))) none = some v' ∧ BS h v' (bs.take k) ∧ ∀ i ∈ ids v', i ∈ ids v := by
  obtain ⟨v', h1, h2, h3⟩ := slice_bytes byte24 hb (lo := none) (hi := some (.int .i64 (k : Nat))) (a := 0) (b := k) (.inl ⟨rfl, rfl⟩) (.inr ⟨_, rfl⟩) (by omega) hk
  exact ⟨v', h1, h2, h3⟩
theorem slice_last {h : AH} {v : AV} {bs : List UInt8} (hb : BS h v bs) {k : Nat} (hk : k ≤ bs.length) :
    ∃ v', aSlice E0 24 v (some (.int .i64 (k : Nat))) none none = some v' ∧ BS h v' (bs.drop k) ∧ ∀ i ∈ ids v', i ∈ ids v := by
  obtain ⟨v', h1, h2, h3⟩ := slice_bytes byte24 hb (lo := some (.int .i64 (k : Nat))) (hi := none) (a := k) (b := bs.length) (.inr ⟨_, rfl⟩) (.inl ⟨rfl, rfl⟩) hk (Nat.le_refl _)
  rw [List.take_length] at h2
  exact ⟨v', h1, h2, h3⟩

theorem condK_mono {K : Caller} {m : Nat} {v : AV} {a b : LC} {fr : Nat → AV} {h : AH} {Q Q' : CR → Prop} (hw : condK E0 K m v a b fr h Q) (hq : ∀ r, Q r → Q' r) : condK E0 K m v a b fr h Q' := onBool_mono (wCode_mono a fr h Q Q' hq) (wCode_mono b fr h Q Q' hq) hw

/-! ### What reading the items comes to -/
def It.raw12 (x : It) : List UInt8 := x.raw.take 12
def mapD {α β : Type} (f : α → β) : DR α → DR β
  | .ok a k => .ok (f a) k
  | .bad e => .bad e
def decF (x : It) (s : List UInt8) : DR Bool :=
  if x.kind % 8 = 0 then mapD (fun v => v == x.n % 256) (fixF 1 s)
  else if x.kind % 8 = 1 then mapD (fun v => v == x.n % 65536) (fixF 2 s)
  else if x.kind % 8 = 2 then mapD (fun v => v == x.n % 4294967296) (fixF 4 s)
  else if x.kind % 8 = 3 then mapD (fun v => v == x.n) (fixF 8 s)
  else if x.kind % 8 = 4 then mapD (fun v => v == x.n) (numF 0 0 s)
  else if x.kind % 8 = 5 then mapD (fun v => zagI v == IntKind.i64.wrap (x.n : Nat)) (numF 0 0 s)
  else if x.kind % 8 = 6 then mapD (fun v => v == x.raw12) (blockF 12 s)
  else mapD (fun v => v == [x.raw12, x.raw12.drop (x.raw12.length / 2)]) (textsF 2 12 s)
def readsF : List It → List UInt8 → Bool × Nat
  | [], s => (true, if s.length = 0 then 0 else 72)
  | x :: l, s => match decF x s with
    | .bad e => (true, e)
    | .ok b k => if b = true then readsF l (s.drop k) else (false, 0)

theorem numF_bad : ∀ (s : List UInt8) (i v e : Nat), numF i v s = .bad e → e ≠ 0
  | [], i, v, e, h => by simp only [numF] at h; cases h; decide
  | c :: r, i, v, e, h => by
      simp only [numF] at h
      split at h
      · split at h
        · split at h
          · cases h
          · cases h; decide
        · exact numF_bad r _ _ _ h
      · cases h; decide
theorem blockF_bad {m : Nat} {s : List UInt8} {e : Nat} (h : blockF m s = .bad e) : e ≠ 0 := by
  unfold blockF at h
  split at h
  · split at h
    · split at h
      · cases h
      · cases h; decide
    · cases h; decide
  · rename_i h2; cases h; exact numF_bad _ _ _ _ h2
theorem blocksF_bad {m : Nat} : ∀ (n : Nat) {s : List UInt8} {e : Nat}, blocksF m n s = .bad e → e ≠ 0
  | 0, s, e, h => by simp only [blocksF] at h; cases h
  | n + 1, s, e, h => by
      simp only [blocksF] at h
      split at h
      · split at h
        · cases h
        · rename_i h2; cases h; exact blocksF_bad n h2
      · rename_i h2; cases h; exact blockF_bad h2
theorem textsF_bad {m k : Nat} {s : List UInt8} {e : Nat} (h : textsF m k s = .bad e) : e ≠ 0 := by
  unfold textsF at h
  split at h
  · split at h
    · unfold afterF at h
      split at h
      · cases h
      · rename_i h2; cases h; exact blocksF_bad _ h2
    · cases h; decide
  · rename_i h2; cases h; exact numF_bad _ _ _ _ h2
theorem mapD_bad {α β : Type} {f : α → β} {d : DR α} {e : Nat} (h : mapD f d = .bad e) : d = .bad e := by
  cases d with
  | ok a k => simp only [mapD] at h; cases h
  | bad e' => simp only [mapD] at h; cases h; rfl
theorem fixF_bad {w : Nat} {s : List UInt8} {e : Nat} (h : fixF w s = .bad e) : e ≠ 0 := by
  unfold fixF at h
  split at h
  · cases h
  · cases h; decide
theorem decF_bad {x : It} {s : List UInt8} {e : Nat} (h : decF x s = .bad e) : e ≠ 0 := by
  unfold decF at h
  repeat' split at h
  all_goals first | exact fixF_bad (mapD_bad h) | exact numF_bad _ _ _ _ (mapD_bad h) | exact blockF_bad (mapD_bad h) | exact textsF_bad (mapD_bad h)
end Go.Proofs.Yteblojfcalgoeaa
