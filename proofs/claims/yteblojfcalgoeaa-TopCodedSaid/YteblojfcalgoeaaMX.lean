/- Parts of the abstract machine and of its laws, joined. Conditions: none. -/
import Derived.Test.YteblojfcalgoeaaMW
import Derived.Test.YteblojfcalgoeaaML
set_option linter.unusedVariables false
set_option linter.unusedSimpArgs false
/- Seat 1: TopCoded: the items are put. Conditions: none. -/
namespace Go.Proofs.Yteblojfcalgoeaa
open Go Go.RowKit
set_option maxRecDepth 100000
set_option linter.unusedSimpArgs false
set_option linter.unusedVariables false

@[go_sem] theorem min_20 (a : Nat) : (if (20 : Int) < (a : Int) then (20 : Int) else (a : Int)) = ((min a 20 : Nat) : Int) := min_nat a 20
theorem store_atom22 {v z : AV} {t' : TypeId} (ha : v.atom = true) : storeO E0 22 0 v (.cells [z] t' .own) = some (.cells [v] t' .own) := storeO_atom (by kernel_rfl) ha (by decide) (by simp)
theorem leB_mod : ∀ (k n : Nat), leB k (n % 256 ^ k) = leB k n
  | 0, n => rfl
  | k + 1, n => by
      have e : n % 256 ^ (k + 1) / 256 = n / 256 % 256 ^ k := by
        rw [Nat.pow_succ, Nat.mul_comm, Nat.mod_mul_right_div_self]
      have e2 : n % 256 ^ (k + 1) % 256 = n % 256 := by
        rw [Nat.pow_succ, Nat.mul_comm]; exact Nat.mod_mul_right_mod ..
      rw [leB, leB, e, e2, leB_mod k]
theorem leB_take : ∀ (k m n : Nat), k ≤ m → (leB m n).take k = leB k n
  | 0, m, n, _ => by simp [leB]
  | k + 1, 0, n, h => by omega
  | k + 1, m + 1, n, h => by rw [leB, leB, List.take_succ_cons, leB_take k m _ (by omega)]

/-- Behind the putting of one item. -/
def PuO (hb : AH) (a1 a2 a35 a36 a37 : AV) (bs : List UInt8) (r : CR) : Prop :=
  ∃ fr h' b d, r = .go 0 fr h' ∧ fr 1 = a1 ∧ fr 2 = a2 ∧ fr 35 = a35 ∧ fr 36 = a36 ∧ fr 37 = a37 ∧ fr 5 = b ∧ fr 6 = d ∧ Two 5 hb h' b d bs bs

theorem encL_len : ∀ (l : List It), (∀ x ∈ l, x.n < 18446744073709551616) → (encL l).length ≤ 50 * l.length
  | [], _ => by simp [encL]
  | x :: l, hx => by
      have e : encL (x :: l) = encF x ++ encL l := rfl
      have h1 := encL_len l fun y hy => hx y (List.mem_cons_of_mem _ hy)
      have hx := hx x List.mem_cons_self
      have hr := raw12_len x
      have hp : ∀ p : List UInt8, p.length ≤ 12 → (blockB p).length ≤ 13 := fun p hp => by
        rw [blockB_len, shortB_small (by omega)]; simp; omega
      have h2 : (encF x).length ≤ 50 := by
        have h8 : x.kind % 8 = 0 ∨ x.kind % 8 = 1 ∨ x.kind % 8 = 2 ∨ x.kind % 8 = 3 ∨ x.kind % 8 = 4 ∨ x.kind % 8 = 5 ∨ x.kind % 8 = 6 ∨ x.kind % 8 = 7 := by omega
        have hn : ∀ y, y < 18446744073709551616 → (shortB y).length ≤ 10 := fun y hy => shortB_len10 hy
        unfold encF
        rcases h8 with hk | hk | hk | hk | hk | hk | hk | hk <;> simp only [hk, reduceIte, Nat.reduceEqDiff, leB_length]
        · omega
        · omega
        · omega
        · omega
        · have := hn x.n hx; omega
        · have hi := i64_rng (x.n : Nat)
          have := hn _ (zigN_lt _ hi.1 hi.2); omega
        · have := hp _ hr; omega
        · have h1 := hp _ hr
          have h2 := hp (x.raw12.drop (x.raw12.length / 2)) (by simp; omega)
          rw [flatT_cons, flatT_cons, List.length_append, List.length_append, List.length_append, shortB_small (by omega)]
          simp [flatT]; omega
      rw [e, List.length_append, List.length_cons]
      omega

theorem build_texts {h : AH} {s t : List UInt8} : aBuildSlice E0 h 48 2 [(0, .str s), (1, .str t)] = some (.sl h.next 0 2 2 false, h.push (.cells [.str s, .str t] 9 .own)) := by kernel_rfl
/-- Behind the putting. -/
structure PA (B bx : Nat) (h0 : AH) (cut : Nat) (l : List It) (fr : Nat → AV) (h' : AH) : Prop where
  f1 : fr 1 = .int .u16 (cut : Nat)
  f2 : fr 2 = .ptr bx 0
  ex : ∃ lv b d hb, fr 5 = b ∧ fr 6 = d ∧ h'.get bx = .cells [lv] 22 .own ∧ ItS B h' lv l ∧ Two 5 hb h' b d (encL l) (encL l) ∧ bx < hb.next
  keep : Keep h0 h' []
  le : h0.next ≤ bx

theorem ItS.take {B : Nat} {h : AH} {v : AV} {l : List It} (hi : ItS B h v l) (k : Nat) (hk : k ≤ l.length) : ∃ v', aSlice E0 22 v none (some (.int .i64 (k : Nat))) none = some v' ∧ ItS B h v' (l.take k) ∧ v'.atom = true := by
  obtain ⟨h1, h2, cs, h3, h4⟩ := hi
  obtain ⟨v', a1, a2, a3, a4⟩ := slice_gen sl22 h3 (lo := none) (hi := some (.int .i64 (k : Nat))) (a := 0) (b := k) (.inl ⟨rfl, rfl⟩) (.inr ⟨_, rfl⟩) (by omega) hk
  have hlen : (l.take k).length = k := by rw [List.length_take]; omega
  refine ⟨v', a1, ⟨h1, fun i hi => h2 i (a3 i hi), _, by rw [hlen]; exact a2, fun j x hx => ?_⟩, a4⟩
  have hj : j < k := by have := (List.getElem?_eq_some_iff.1 hx).1; omega
  rw [List.getElem?_take, if_pos hj] at hx
  obtain ⟨rv, a⟩ := h4 j x hx
  have g : ∀ d, d < 3 → ((cs.take (k * 3)).drop (0 * 3))[j * 3 + d]? = cs[j * 3 + d]? := fun d hd => by
    rw [Nat.zero_mul, List.drop_zero, List.getElem?_take, if_pos (by omega)]
  exact ⟨rv, by rw [g 0 (by omega)]; exact a.c0, by rw [g 1 (by omega)]; exact a.c1, by rw [g 2 (by omega)]; exact a.c2, a.raw, a.atom, a.ids, a.kind, a.n⟩

set_option maxHeartbeats 4000000 in
theorem topA (lv : AV) (cut : Nat) (l0 : List It) (B : Nat) (h : AH) (hl0 : ItS B h lv l0) (hva : lv.atom = true) (n : Nat) (hn : 10 ≤ n)
    (Q : CR → Prop) (hQ : ∀ fr h', PA B h.next h cut (l0.take 20) fr h' → wCode E0 (aCall E0 sp0 100000 n) 100000 lc3_35 fr h' Q) :
    wCode E0 (aCall E0 sp0 100000 n) 100000 lc3 (frame0 [lv, .int .u16 (cut : Nat)]) h Q := by
  have hlen0 : ∀ h' : AH, Keep h h' [] → qBuiltin E0 h' .len [lv] [22] = some (.int .i64 (l0.length : Nat)) := fun h' k => by
    obtain ⟨_, _, cs, a, _⟩ := hl0.keep k (by simp)
    exact len_gen sl22 a
  have hlB := hl0.1
  have k0 : Keep h (h.push (.cells [lv] 22 .own)) [] := Keep.push h _
  obtain ⟨lv', e0, hl, hva'⟩ := (hl0.keep k0 (by simp)).take (min l0.length 20) (by omega)
  rw [take_min] at hl
  generalize hll : l0.take 20 = l at hl hQ
  have hl20 : l.length ≤ 20 := by rw [← hll]; exact List.length_take_le 20 l0
  obtain ⟨hb, hhb⟩ : ∃ hb, hb = (h.push (.cells [lv] 22 .own)).set h.next (.cells [lv'] 22 .own) := ⟨_, rfl⟩
  have kb : Keep h hb [] := by rw [hhb]; exact keep_set k0 (Nat.le_refl _)
  have hbn : hb.next = h.next + 1 := by rw [hhb]; rfl
  have hbg : hb.get h.next = .cells [lv'] 22 .own := by rw [hhb]; exact get_set_same
  have hlb : ItS B hb lv' l := hl.keep (by rw [hhb]; exact Keep.set _ h.next _) (by simp; omega)
  have hlenb : ∀ h' : AH, Keep hb h' [] → qBuiltin E0 h' .len [lv'] [22] = some (.int .i64 (l.length : Nat)) := fun h' k => by
    obtain ⟨_, _, cs, a, _⟩ := hlb.keep k (by simp)
    exact len_gen sl22 a
  have hxs : ∀ x ∈ l, x.n < 18446744073709551616 := fun x hx => by
    obtain ⟨j, hj⟩ := List.mem_iff_getElem?.1 hx
    obtain ⟨_, _, cs, _, a⟩ := hlb
    obtain ⟨rv, b⟩ := a j x hj
    exact b.n
  simp (discharger := first | assumption | omega | (simp only [next_push, next_set] <;> omega) | (simp only [List.length_cons, List.length_nil] <;> omega) | decide) only [go_sem, reduceIte, Nat.reduceEqDiff, Nat.reduceAdd, Nat.reduceMul, Nat.reduceSub, Int.reduceLE, Int.reduceLT, Int.reduceNe, Int.reduceToNat, Int.reducePow, Int.reduceAdd, Int.reduceMul, reduceCtorEq, true_and, and_true, cond_true, cond_false, List.map_cons, List.map_nil, Option.map_some, Option.map_none, List.getElem?_cons_zero, List.getElem?_cons_succ, ne_eq, not_false_eq_true, List.nil_append, List.append_nil, List.cons_append, List.contains_cons, List.contains_nil, Nat.reduceBEq, Bool.or_false, Bool.false_or, Bool.true_or, Bool.or_true, boxV_atom hva, get_push_new, hlen0 _ k0, min_20, e0, store_atom22 hva', ← hhb, hbg, hlenb hb (Keep.refl hb)]
  refine wLoop_cut (Q := fun r => ∃ fr h', r = .go 2 fr h' ∧ PA B h.next h cut l fr h') ?_ (fun r hr => by
    obtain ⟨fr, h', rfl, hp⟩ := hr
    simp only [BlockQ_exit, if_true, SeqC_go]
    exact hQ _ _ hp)
  refine wLoop_inv (fun k fr h1 => ∃ i b d, k = l.length - i ∧ i ≤ l.length ∧ fr 1 = .int .u16 (cut : Nat) ∧ fr 2 = .ptr h.next 0 ∧ fr 5 = b ∧ fr 6 = d ∧ fr 35 = lv' ∧ fr 36 = .int .i64 (l.length : Nat) ∧ fr 37 = .int .i64 (i : Nat) ∧ Two 5 hb h1 b d (encL (l.take i)) (encL (l.take i))) ?_ 100000 l.length _ _ (by omega)
    ⟨0, .nils, .nils, rfl, by omega, by simp only [go_sem, reduceIte, Nat.reduceEqDiff, Nat.reduceAdd, Nat.reduceMul, Nat.reduceSub, Int.reduceLE, Int.reduceLT, Int.reduceNe, Int.reduceToNat, Int.reducePow, Int.reduceAdd, Int.reduceMul, reduceCtorEq, true_and, and_true, cond_true, cond_false, List.map_cons, List.map_nil, Option.map_some, Option.map_none, List.getElem?_cons_zero, List.getElem?_cons_succ, ne_eq, not_false_eq_true, List.nil_append, List.append_nil, List.cons_append, List.contains_cons, List.contains_nil, Nat.reduceBEq, Bool.or_false, Bool.false_or, Bool.true_or, Bool.or_true], by simp only [go_sem, reduceIte, Nat.reduceEqDiff, Nat.reduceAdd, Nat.reduceMul, Nat.reduceSub, Int.reduceLE, Int.reduceLT, Int.reduceNe, Int.reduceToNat, Int.reducePow, Int.reduceAdd, Int.reduceMul, reduceCtorEq, true_and, and_true, cond_true, cond_false, List.map_cons, List.map_nil, Option.map_some, Option.map_none, List.getElem?_cons_zero, List.getElem?_cons_succ, ne_eq, not_false_eq_true, List.nil_append, List.append_nil, List.cons_append, List.contains_cons, List.contains_nil, Nat.reduceBEq, Bool.or_false, Bool.false_or, Bool.true_or, Bool.or_true], by simp only [go_sem, reduceIte, Nat.reduceEqDiff, Nat.reduceAdd, Nat.reduceMul, Nat.reduceSub, Int.reduceLE, Int.reduceLT, Int.reduceNe, Int.reduceToNat, Int.reducePow, Int.reduceAdd, Int.reduceMul, reduceCtorEq, true_and, and_true, cond_true, cond_false, List.map_cons, List.map_nil, Option.map_some, Option.map_none, List.getElem?_cons_zero, List.getElem?_cons_succ, ne_eq, not_false_eq_true, List.nil_append, List.append_nil, List.cons_append, List.contains_cons, List.contains_nil, Nat.reduceBEq, Bool.or_false, Bool.false_or, Bool.true_or, Bool.or_true], by simp only [go_sem, reduceIte, Nat.reduceEqDiff, Nat.reduceAdd, Nat.reduceMul, Nat.reduceSub, Int.reduceLE, Int.reduceLT, Int.reduceNe, Int.reduceToNat, Int.reducePow, Int.reduceAdd, Int.reduceMul, reduceCtorEq, true_and, and_true, cond_true, cond_false, List.map_cons, List.map_nil, Option.map_some, Option.map_none, List.getElem?_cons_zero, List.getElem?_cons_succ, ne_eq, not_false_eq_true, List.nil_append, List.append_nil, List.cons_append, List.contains_cons, List.contains_nil, Nat.reduceBEq, Bool.or_false, Bool.false_or, Bool.true_or, Bool.or_true], by simp only [go_sem, reduceIte, Nat.reduceEqDiff, Nat.reduceAdd, Nat.reduceMul, Nat.reduceSub, Int.reduceLE, Int.reduceLT, Int.reduceNe, Int.reduceToNat, Int.reducePow, Int.reduceAdd, Int.reduceMul, reduceCtorEq, true_and, and_true, cond_true, cond_false, List.map_cons, List.map_nil, Option.map_some, Option.map_none, List.getElem?_cons_zero, List.getElem?_cons_succ, ne_eq, not_false_eq_true, List.nil_append, List.append_nil, List.cons_append, List.contains_cons, List.contains_nil, Nat.reduceBEq, Bool.or_false, Bool.false_or, Bool.true_or, Bool.or_true], by simp only [go_sem, reduceIte, Nat.reduceEqDiff, Nat.reduceAdd, Nat.reduceMul, Nat.reduceSub, Int.reduceLE, Int.reduceLT, Int.reduceNe, Int.reduceToNat, Int.reducePow, Int.reduceAdd, Int.reduceMul, reduceCtorEq, true_and, and_true, cond_true, cond_false, List.map_cons, List.map_nil, Option.map_some, Option.map_none, List.getElem?_cons_zero, List.getElem?_cons_succ, ne_eq, not_false_eq_true, List.nil_append, List.append_nil, List.cons_append, List.contains_cons, List.contains_nil, Nat.reduceBEq, Bool.or_false, Bool.false_or, Bool.true_or, Bool.or_true], by simp only [go_sem, reduceIte, Nat.reduceEqDiff, Nat.reduceAdd, Nat.reduceMul, Nat.reduceSub, Int.reduceLE, Int.reduceLT, Int.reduceNe, Int.reduceToNat, Int.reducePow, Int.reduceAdd, Int.reduceMul, reduceCtorEq, true_and, and_true, cond_true, cond_false, List.map_cons, List.map_nil, Option.map_some, Option.map_none, List.getElem?_cons_zero, List.getElem?_cons_succ, ne_eq, not_false_eq_true, List.nil_append, List.append_nil, List.cons_append, List.contains_cons, List.contains_nil, Nat.reduceBEq, Bool.or_false, Bool.false_or, Bool.true_or, Bool.or_true]; rfl, .inl ⟨rfl, rfl⟩, .inl ⟨rfl, rfl⟩, Keep.refl hb, by simp [ids], by simp [ids], by simp [ids]⟩
  rintro k fr h1 ⟨i, b, d, rfl, hi, hf1, hf2, hf5, hf6, hf35, hf36, hf37, ht⟩
  simp only [go_sem, reduceIte, Nat.reduceEqDiff, Nat.reduceAdd, Nat.reduceMul, Nat.reduceSub, Int.reduceLE, Int.reduceLT, Int.reduceNe, Int.reduceToNat, Int.reducePow, Int.reduceAdd, Int.reduceMul, reduceCtorEq, true_and, and_true, cond_true, cond_false, List.map_cons, List.map_nil, Option.map_some, Option.map_none, List.getElem?_cons_zero, List.getElem?_cons_succ, ne_eq, not_false_eq_true, List.nil_append, List.append_nil, List.cons_append, List.contains_cons, List.contains_nil, Nat.reduceBEq, Bool.or_false, Bool.false_or, Bool.true_or, Bool.or_true, hf1, hf2, hf5, hf6, hf35, hf36, hf37]
  refine condK_intro (fun hc => ?_) (fun hc => ?_)
  case refine_2 =>
    have hc : i = l.length := by have := of_decide_eq_false hc; omega
    subst hc
    rw [List.take_length] at ht
    simp only [go_sem, reduceIte, Nat.reduceEqDiff, Nat.reduceAdd, Nat.reduceMul, Nat.reduceSub, Int.reduceLE, Int.reduceLT, Int.reduceNe, Int.reduceToNat, Int.reducePow, Int.reduceAdd, Int.reduceMul, reduceCtorEq, true_and, and_true, cond_true, cond_false, List.map_cons, List.map_nil, Option.map_some, Option.map_none, List.getElem?_cons_zero, List.getElem?_cons_succ, ne_eq, not_false_eq_true, List.nil_append, List.append_nil, List.cons_append, List.contains_cons, List.contains_nil, Nat.reduceBEq, Bool.or_false, Bool.false_or, Bool.true_or, Bool.or_true, hf1, hf2, hf5, hf6, hf35, hf36, hf37]
    refine ⟨_, _, rfl, hf1, hf2, ⟨lv', b, d, hb, hf5, hf6, ?_, hlb.keep ht.keep (by simp), ht, by omega⟩, (kb.trans ht.keep).mono (by simp), Nat.le_refl _⟩
    rw [ht.keep.get _ (by omega) (by simp)]; exact hbg
  case refine_1 =>
  have hc : i < l.length := by have := of_decide_eq_true hc; omega
  have hxi : l[i]? = some l[i] := List.getElem?_eq_getElem hc
  have htk : encL (l.take (i + 1)) = encL (l.take i) ++ encF l[i] := by
    rw [take_next hxi]; simp only [encL, List.map_append, List.flatten_append, List.map_cons, List.map_nil, List.flatten_cons, List.flatten_nil, List.append_nil]
  have hel : (encL (l.take i)).length ≤ 1000 := by
    have := encL_len (l.take i) (fun x hx => hxs x (List.mem_of_mem_take hx))
    have h2 : (l.take i).length ≤ 20 := by rw [List.length_take]; omega
    omega
  generalize hxd : l[i] = x at *
  generalize hEs : encL (l.take i) = es at ht htk hel
  obtain ⟨p, rv, e4, e5, hrv, hrva, hrvi, hkd, hxn⟩ := (hlb.keep ht.keep (by simp)).load hxi
  have hB := hlb.1
  have hst : ∀ a b c : AV, storeO E0 27 0 (.agg [.int .u8 (x.kind : Nat), .int .u64 (x.n : Nat), rv]) (.cells [a, b, c] 27 .own) = some (.cells [.int .u8 (x.kind : Nat), .int .u64 (x.n : Nat), rv] 27 .own) := fun a b c => store27 rfl rfl hrva
  obtain ⟨H, hH⟩ : ∃ H, H = (h1.push (.cells [.int .u8 0, .int .u64 0, .nils] 27 .own)).set h1.next (.cells [.int .u8 (x.kind : Nat), .int .u64 (x.n : Nat), rv] 27 .own) := ⟨_, rfl⟩
  have hpush : (h1.push (.cells [.int .u8 0, .int .u64 0, .nils] 27 .own)).get h1.next = .cells [.int .u8 0, .int .u64 0, .nils] 27 .own := get_push_new rfl
  have hHk : Keep h1 H [] := by rw [hH]; exact keep_set (Keep.push h1 _) (Nat.le_refl _)
  have hHn : H.next = h1.next + 1 := by rw [hH]; rfl
  have hHg : H.get h1.next = .cells [.int .u8 (x.kind : Nat), .int .u64 (x.n : Nat), rv] 27 .own := by rw [hH]; exact get_set_same
  have hrvH : BS H rv x.raw := hrv.keep hHk (by simp)
  have hlenrv : qBuiltin E0 H .len [rv] [24] = some (.int .i64 (x.raw.length : Nat)) := len_bytes byte24 hrvH
  obtain ⟨v8, e8, hv8, hv8i⟩ := slice_first hrvH (k := min x.raw.length 12) (by omega)
  rw [take_min] at hv8
  have hv8B : ∀ j ∈ ids v8, j < B := fun j hj => hrvi j (hv8i j hj)
  have hk1n := ht.keep.next
  have hv8l : ∀ j ∈ ids v8, j < H.next := fun j hj => by have := hv8B j hj; omega
  simp only [go_sem, reduceIte, Nat.reduceEqDiff, Nat.reduceAdd, Nat.reduceMul, Nat.reduceSub, Int.reduceLE, Int.reduceLT, Int.reduceNe, Int.reduceToNat, Int.reducePow, Int.reduceAdd, Int.reduceMul, reduceCtorEq, true_and, and_true, cond_true, cond_false, List.map_cons, List.map_nil, Option.map_some, Option.map_none, List.getElem?_cons_zero, List.getElem?_cons_succ, ne_eq, not_false_eq_true, List.nil_append, List.append_nil, List.cons_append, List.contains_cons, List.contains_nil, Nat.reduceBEq, Bool.or_false, Bool.false_or, Bool.true_or, Bool.or_true, hf1, hf2, hf5, hf6, hf35, hf36, hf37, e4, e5, hpush, hst, ← hH, hHg, hlenrv, min12, e8, tmod8]
  have htH := ht.same hHk
  refine condK_mono (Q := PuO hb (.int .u16 (cut : Nat)) (.ptr h.next 0) lv' (.int .i64 (l.length : Nat)) (.int .i64 (i : Nat)) (es ++ encF x)) ?_ ?_
  case refine_2 =>
    rintro _ ⟨fr', h', b', d', rfl, g1, g2, g35, g36, g37, g5, g6, gt⟩
    simp only [go_sem, reduceIte, Nat.reduceEqDiff, Nat.reduceAdd, Nat.reduceMul, Nat.reduceSub, Int.reduceLE, Int.reduceLT, Int.reduceNe, Int.reduceToNat, Int.reducePow, Int.reduceAdd, Int.reduceMul, reduceCtorEq, true_and, and_true, cond_true, cond_false, List.map_cons, List.map_nil, Option.map_some, Option.map_none, List.getElem?_cons_zero, List.getElem?_cons_succ, ne_eq, not_false_eq_true, List.nil_append, List.append_nil, List.cons_append, List.contains_cons, List.contains_nil, Nat.reduceBEq, Bool.or_false, Bool.false_or, Bool.true_or, Bool.or_true, g1, g2, g5, g6, g35, g36, g37, w_inc (show i ≤ 1000000000 by omega)]
    exact ⟨l.length - (i + 1), by omega, i + 1, b', d', rfl, by omega, rfl, rfl, rfl, by rw [htk]; exact gt⟩
  case refine_1 =>
  clear hst htk hpush e4 e5 hxs
  have h8 : x.kind % 8 = 0 ∨ x.kind % 8 = 1 ∨ x.kind % 8 = 2 ∨ x.kind % 8 = 3 ∨ x.kind % 8 = 4 ∨ x.kind % 8 = 5 ∨ x.kind % 8 = 6 ∨ x.kind % 8 = 7 := by omega
  have hr12 := raw12_len x
  have hi64 := i64_rng (x.n : Nat)
  have hcell : ∀ h' : AH, Keep H h' [] → h'.get h1.next = .cells [.int .u8 (x.kind : Nat), .int .u64 (x.n : Nat), rv] 27 .own := fun h' k => by
    rw [k.get _ (by omega) (by simp)]; exact hHg
  have hv8k : ∀ h' : AH, Keep H h' [] → BS h' v8 x.raw12 := fun h' k => hv8.keep k (by simp)
  have hcv : ∀ h' : AH, Keep H h' [] → aConvQ E0 h' 24 9 v8 = some (.str x.raw12) := fun h' k => conv_bytes byte24 str9 (hv8k h' k)
  rcases h8 with hk | hk | hk | hk | hk | hk | hk | hk
  · have hen : encF x = leB 1 x.n := by simp [encF, hk]
    rw [hen]
    clear hen
    have d0 : (((x.kind % 8 : Nat) : Int) == 0) = true := by rw [hk]; rfl
    have d1 : (((x.kind % 8 : Nat) : Int) == 1) = false := by rw [hk]; rfl
    have d2 : (((x.kind % 8 : Nat) : Int) == 2) = false := by rw [hk]; rfl
    have d3 : (((x.kind % 8 : Nat) : Int) == 3) = false := by rw [hk]; rfl
    have d4 : (((x.kind % 8 : Nat) : Int) == 4) = false := by rw [hk]; rfl
    have d5 : (((x.kind % 8 : Nat) : Int) == 5) = false := by rw [hk]; rfl
    have d6 : (((x.kind % 8 : Nat) : Int) == 6) = false := by rw [hk]; rfl
    obtain ⟨_, p1, b1, h2, rfl, ho1, hg1⟩ := put8_con (x.n % 256) (by omega) b es H htH.ob.bs (by omega) n (by omega)
    have t1 := htH.putB ho1 hg1
    have c1 := hcell h2 hg1.keep
    obtain ⟨_, p2, v3, h3, rfl, ho3, hg3⟩ := eight30_con x.n hxn h2 n (by omega)
    have t2 := t1.same hg3.keep
    obtain ⟨v4, p3, hv4, _⟩ := slice_first ho3.bs (k := 1) (by rw [leB_length]; omega)
    have p3 : aSlice E0 24 v3 none (some (.int .i64 1)) none = some v4 := p3
    rw [leB_take 1 8 x.n (by omega)] at hv4
    obtain ⟨dd, h5, p4, ho5, hg5⟩ := append_own byte24 seq24 t2.od hv4.news (by rw [leB_length]; omega)
    have t3 := t2.putD ho5 hg5
    have em := leB_mod 1 x.n
    simp only [Nat.reducePow] at em
    rw [em] at t3
    simp only [go_sem, reduceIte, Nat.reduceEqDiff, Nat.reduceAdd, Nat.reduceMul, Nat.reduceSub, Int.reduceLE, Int.reduceLT, Int.reduceNe, Int.reduceToNat, Int.reducePow, Int.reduceAdd, Int.reduceMul, reduceCtorEq, true_and, and_true, cond_true, cond_false, List.map_cons, List.map_nil, Option.map_some, Option.map_none, List.getElem?_cons_zero, List.getElem?_cons_succ, ne_eq, not_false_eq_true, List.nil_append, List.append_nil, List.cons_append, List.contains_cons, List.contains_nil, Nat.reduceBEq, Bool.or_false, Bool.false_or, Bool.true_or, Bool.or_true, hf1, hf2, hf5, hf6, hf35, hf36, hf37, hHg, d0, d1, d2, d3, d4, d5, d6, w_u8, p1, c1, p2, p3, p4]
    exact ⟨_, _, _, _, rfl, by simp only [go_sem, reduceIte, Nat.reduceEqDiff, Nat.reduceAdd, Nat.reduceMul, Nat.reduceSub, Int.reduceLE, Int.reduceLT, Int.reduceNe, Int.reduceToNat, Int.reducePow, Int.reduceAdd, Int.reduceMul, reduceCtorEq, true_and, and_true, cond_true, cond_false, List.map_cons, List.map_nil, Option.map_some, Option.map_none, List.getElem?_cons_zero, List.getElem?_cons_succ, ne_eq, not_false_eq_true, List.nil_append, List.append_nil, List.cons_append, List.contains_cons, List.contains_nil, Nat.reduceBEq, Bool.or_false, Bool.false_or, Bool.true_or, Bool.or_true, hf1], by simp only [go_sem, reduceIte, Nat.reduceEqDiff, Nat.reduceAdd, Nat.reduceMul, Nat.reduceSub, Int.reduceLE, Int.reduceLT, Int.reduceNe, Int.reduceToNat, Int.reducePow, Int.reduceAdd, Int.reduceMul, reduceCtorEq, true_and, and_true, cond_true, cond_false, List.map_cons, List.map_nil, Option.map_some, Option.map_none, List.getElem?_cons_zero, List.getElem?_cons_succ, ne_eq, not_false_eq_true, List.nil_append, List.append_nil, List.cons_append, List.contains_cons, List.contains_nil, Nat.reduceBEq, Bool.or_false, Bool.false_or, Bool.true_or, Bool.or_true, hf2], by simp only [go_sem, reduceIte, Nat.reduceEqDiff, Nat.reduceAdd, Nat.reduceMul, Nat.reduceSub, Int.reduceLE, Int.reduceLT, Int.reduceNe, Int.reduceToNat, Int.reducePow, Int.reduceAdd, Int.reduceMul, reduceCtorEq, true_and, and_true, cond_true, cond_false, List.map_cons, List.map_nil, Option.map_some, Option.map_none, List.getElem?_cons_zero, List.getElem?_cons_succ, ne_eq, not_false_eq_true, List.nil_append, List.append_nil, List.cons_append, List.contains_cons, List.contains_nil, Nat.reduceBEq, Bool.or_false, Bool.false_or, Bool.true_or, Bool.or_true, hf35], by simp only [go_sem, reduceIte, Nat.reduceEqDiff, Nat.reduceAdd, Nat.reduceMul, Nat.reduceSub, Int.reduceLE, Int.reduceLT, Int.reduceNe, Int.reduceToNat, Int.reducePow, Int.reduceAdd, Int.reduceMul, reduceCtorEq, true_and, and_true, cond_true, cond_false, List.map_cons, List.map_nil, Option.map_some, Option.map_none, List.getElem?_cons_zero, List.getElem?_cons_succ, ne_eq, not_false_eq_true, List.nil_append, List.append_nil, List.cons_append, List.contains_cons, List.contains_nil, Nat.reduceBEq, Bool.or_false, Bool.false_or, Bool.true_or, Bool.or_true, hf36], by simp only [go_sem, reduceIte, Nat.reduceEqDiff, Nat.reduceAdd, Nat.reduceMul, Nat.reduceSub, Int.reduceLE, Int.reduceLT, Int.reduceNe, Int.reduceToNat, Int.reducePow, Int.reduceAdd, Int.reduceMul, reduceCtorEq, true_and, and_true, cond_true, cond_false, List.map_cons, List.map_nil, Option.map_some, Option.map_none, List.getElem?_cons_zero, List.getElem?_cons_succ, ne_eq, not_false_eq_true, List.nil_append, List.append_nil, List.cons_append, List.contains_cons, List.contains_nil, Nat.reduceBEq, Bool.or_false, Bool.false_or, Bool.true_or, Bool.or_true, hf37], by simp only [go_sem, reduceIte, Nat.reduceEqDiff, Nat.reduceAdd, Nat.reduceMul, Nat.reduceSub, Int.reduceLE, Int.reduceLT, Int.reduceNe, Int.reduceToNat, Int.reducePow, Int.reduceAdd, Int.reduceMul, reduceCtorEq, true_and, and_true, cond_true, cond_false, List.map_cons, List.map_nil, Option.map_some, Option.map_none, List.getElem?_cons_zero, List.getElem?_cons_succ, ne_eq, not_false_eq_true, List.nil_append, List.append_nil, List.cons_append, List.contains_cons, List.contains_nil, Nat.reduceBEq, Bool.or_false, Bool.false_or, Bool.true_or, Bool.or_true], by simp only [go_sem, reduceIte, Nat.reduceEqDiff, Nat.reduceAdd, Nat.reduceMul, Nat.reduceSub, Int.reduceLE, Int.reduceLT, Int.reduceNe, Int.reduceToNat, Int.reducePow, Int.reduceAdd, Int.reduceMul, reduceCtorEq, true_and, and_true, cond_true, cond_false, List.map_cons, List.map_nil, Option.map_some, Option.map_none, List.getElem?_cons_zero, List.getElem?_cons_succ, ne_eq, not_false_eq_true, List.nil_append, List.append_nil, List.cons_append, List.contains_cons, List.contains_nil, Nat.reduceBEq, Bool.or_false, Bool.false_or, Bool.true_or, Bool.or_true], t3⟩
  · have hen : encF x = leB 2 x.n := by simp [encF, hk]
    rw [hen]
    clear hen
    have d0 : (((x.kind % 8 : Nat) : Int) == 0) = false := by rw [hk]; rfl
    have d1 : (((x.kind % 8 : Nat) : Int) == 1) = true := by rw [hk]; rfl
    have d2 : (((x.kind % 8 : Nat) : Int) == 2) = false := by rw [hk]; rfl
    have d3 : (((x.kind % 8 : Nat) : Int) == 3) = false := by rw [hk]; rfl
    have d4 : (((x.kind % 8 : Nat) : Int) == 4) = false := by rw [hk]; rfl
    have d5 : (((x.kind % 8 : Nat) : Int) == 5) = false := by rw [hk]; rfl
    have d6 : (((x.kind % 8 : Nat) : Int) == 6) = false := by rw [hk]; rfl
    obtain ⟨_, p1, b1, h2, rfl, ho1, hg1⟩ := put16_con (x.n % 65536) (by omega) b es H htH.ob.bs (by omega) n (by omega)
    have t1 := htH.putB ho1 hg1
    have c1 := hcell h2 hg1.keep
    obtain ⟨_, p2, v3, h3, rfl, ho3, hg3⟩ := eight30_con x.n hxn h2 n (by omega)
    have t2 := t1.same hg3.keep
    obtain ⟨v4, p3, hv4, _⟩ := slice_first ho3.bs (k := 2) (by rw [leB_length]; omega)
    have p3 : aSlice E0 24 v3 none (some (.int .i64 2)) none = some v4 := p3
    rw [leB_take 2 8 x.n (by omega)] at hv4
    obtain ⟨dd, h5, p4, ho5, hg5⟩ := append_own byte24 seq24 t2.od hv4.news (by rw [leB_length]; omega)
    have t3 := t2.putD ho5 hg5
    have em := leB_mod 2 x.n
    simp only [Nat.reducePow] at em
    rw [em] at t3
    simp only [go_sem, reduceIte, Nat.reduceEqDiff, Nat.reduceAdd, Nat.reduceMul, Nat.reduceSub, Int.reduceLE, Int.reduceLT, Int.reduceNe, Int.reduceToNat, Int.reducePow, Int.reduceAdd, Int.reduceMul, reduceCtorEq, true_and, and_true, cond_true, cond_false, List.map_cons, List.map_nil, Option.map_some, Option.map_none, List.getElem?_cons_zero, List.getElem?_cons_succ, ne_eq, not_false_eq_true, List.nil_append, List.append_nil, List.cons_append, List.contains_cons, List.contains_nil, Nat.reduceBEq, Bool.or_false, Bool.false_or, Bool.true_or, Bool.or_true, hf1, hf2, hf5, hf6, hf35, hf36, hf37, hHg, d0, d1, d2, d3, d4, d5, d6, w_u16, p1, c1, p2, p3, p4]
    exact ⟨_, _, _, _, rfl, by simp only [go_sem, reduceIte, Nat.reduceEqDiff, Nat.reduceAdd, Nat.reduceMul, Nat.reduceSub, Int.reduceLE, Int.reduceLT, Int.reduceNe, Int.reduceToNat, Int.reducePow, Int.reduceAdd, Int.reduceMul, reduceCtorEq, true_and, and_true, cond_true, cond_false, List.map_cons, List.map_nil, Option.map_some, Option.map_none, List.getElem?_cons_zero, List.getElem?_cons_succ, ne_eq, not_false_eq_true, List.nil_append, List.append_nil, List.cons_append, List.contains_cons, List.contains_nil, Nat.reduceBEq, Bool.or_false, Bool.false_or, Bool.true_or, Bool.or_true, hf1], by simp only [go_sem, reduceIte, Nat.reduceEqDiff, Nat.reduceAdd, Nat.reduceMul, Nat.reduceSub, Int.reduceLE, Int.reduceLT, Int.reduceNe, Int.reduceToNat, Int.reducePow, Int.reduceAdd, Int.reduceMul, reduceCtorEq, true_and, and_true, cond_true, cond_false, List.map_cons, List.map_nil, Option.map_some, Option.map_none, List.getElem?_cons_zero, List.getElem?_cons_succ, ne_eq, not_false_eq_true, List.nil_append, List.append_nil, List.cons_append, List.contains_cons, List.contains_nil, Nat.reduceBEq, Bool.or_false, Bool.false_or, Bool.true_or, Bool.or_true, hf2], by simp only [go_sem, reduceIte, Nat.reduceEqDiff, Nat.reduceAdd, Nat.reduceMul, Nat.reduceSub, Int.reduceLE, Int.reduceLT, Int.reduceNe, Int.reduceToNat, Int.reducePow, Int.reduceAdd, Int.reduceMul, reduceCtorEq, true_and, and_true, cond_true, cond_false, List.map_cons, List.map_nil, Option.map_some, Option.map_none, List.getElem?_cons_zero, List.getElem?_cons_succ, ne_eq, not_false_eq_true, List.nil_append, List.append_nil, List.cons_append, List.contains_cons, List.contains_nil, Nat.reduceBEq, Bool.or_false, Bool.false_or, Bool.true_or, Bool.or_true, hf35], by simp only [go_sem, reduceIte, Nat.reduceEqDiff, Nat.reduceAdd, Nat.reduceMul, Nat.reduceSub, Int.reduceLE, Int.reduceLT, Int.reduceNe, Int.reduceToNat, Int.reducePow, Int.reduceAdd, Int.reduceMul, reduceCtorEq, true_and, and_true, cond_true, cond_false, List.map_cons, List.map_nil, Option.map_some, Option.map_none, List.getElem?_cons_zero, List.getElem?_cons_succ, ne_eq, not_false_eq_true, List.nil_append, List.append_nil, List.cons_append, List.contains_cons, List.contains_nil, Nat.reduceBEq, Bool.or_false, Bool.false_or, Bool.true_or, Bool.or_true, hf36], by simp only [go_sem, reduceIte, Nat.reduceEqDiff, Nat.reduceAdd, Nat.reduceMul, Nat.reduceSub, Int.reduceLE, Int.reduceLT, Int.reduceNe, Int.reduceToNat, Int.reducePow, Int.reduceAdd, Int.reduceMul, reduceCtorEq, true_and, and_true, cond_true, cond_false, List.map_cons, List.map_nil, Option.map_some, Option.map_none, List.getElem?_cons_zero, List.getElem?_cons_succ, ne_eq, not_false_eq_true, List.nil_append, List.append_nil, List.cons_append, List.contains_cons, List.contains_nil, Nat.reduceBEq, Bool.or_false, Bool.false_or, Bool.true_or, Bool.or_true, hf37], by simp only [go_sem, reduceIte, Nat.reduceEqDiff, Nat.reduceAdd, Nat.reduceMul, Nat.reduceSub, Int.reduceLE, Int.reduceLT, Int.reduceNe, Int.reduceToNat, Int.reducePow, Int.reduceAdd, Int.reduceMul, reduceCtorEq, true_and, and_true, cond_true, cond_false, List.map_cons, List.map_nil, Option.map_some, Option.map_none, List.getElem?_cons_zero, List.getElem?_cons_succ, ne_eq, not_false_eq_true, List.nil_append, List.append_nil, List.cons_append, List.contains_cons, List.contains_nil, Nat.reduceBEq, Bool.or_false, Bool.false_or, Bool.true_or, Bool.or_true], by simp only [go_sem, reduceIte, Nat.reduceEqDiff, Nat.reduceAdd, Nat.reduceMul, Nat.reduceSub, Int.reduceLE, Int.reduceLT, Int.reduceNe, Int.reduceToNat, Int.reducePow, Int.reduceAdd, Int.reduceMul, reduceCtorEq, true_and, and_true, cond_true, cond_false, List.map_cons, List.map_nil, Option.map_some, Option.map_none, List.getElem?_cons_zero, List.getElem?_cons_succ, ne_eq, not_false_eq_true, List.nil_append, List.append_nil, List.cons_append, List.contains_cons, List.contains_nil, Nat.reduceBEq, Bool.or_false, Bool.false_or, Bool.true_or, Bool.or_true], t3⟩
  · have hen : encF x = leB 4 x.n := by simp [encF, hk]
    rw [hen]
    clear hen
    have d0 : (((x.kind % 8 : Nat) : Int) == 0) = false := by rw [hk]; rfl
    have d1 : (((x.kind % 8 : Nat) : Int) == 1) = false := by rw [hk]; rfl
    have d2 : (((x.kind % 8 : Nat) : Int) == 2) = true := by rw [hk]; rfl
    have d3 : (((x.kind % 8 : Nat) : Int) == 3) = false := by rw [hk]; rfl
    have d4 : (((x.kind % 8 : Nat) : Int) == 4) = false := by rw [hk]; rfl
    have d5 : (((x.kind % 8 : Nat) : Int) == 5) = false := by rw [hk]; rfl
    have d6 : (((x.kind % 8 : Nat) : Int) == 6) = false := by rw [hk]; rfl
    obtain ⟨_, p1, b1, h2, rfl, ho1, hg1⟩ := put32_con (x.n % 4294967296) (by omega) b es H htH.ob.bs (by omega) n (by omega)
    have t1 := htH.putB ho1 hg1
    have c1 := hcell h2 hg1.keep
    obtain ⟨_, p2, v3, h3, rfl, ho3, hg3⟩ := eight30_con x.n hxn h2 n (by omega)
    have t2 := t1.same hg3.keep
    obtain ⟨v4, p3, hv4, _⟩ := slice_first ho3.bs (k := 4) (by rw [leB_length]; omega)
    have p3 : aSlice E0 24 v3 none (some (.int .i64 4)) none = some v4 := p3
    rw [leB_take 4 8 x.n (by omega)] at hv4
    obtain ⟨dd, h5, p4, ho5, hg5⟩ := append_own byte24 seq24 t2.od hv4.news (by rw [leB_length]; omega)
    have t3 := t2.putD ho5 hg5
    have em := leB_mod 4 x.n
    simp only [Nat.reducePow] at em
    rw [em] at t3
    simp only [go_sem, reduceIte, Nat.reduceEqDiff, Nat.reduceAdd, Nat.reduceMul, Nat.reduceSub, Int.reduceLE, Int.reduceLT, Int.reduceNe, Int.reduceToNat, Int.reducePow, Int.reduceAdd, Int.reduceMul, reduceCtorEq, true_and, and_true, cond_true, cond_false, List.map_cons, List.map_nil, Option.map_some, Option.map_none, List.getElem?_cons_zero, List.getElem?_cons_succ, ne_eq, not_false_eq_true, List.nil_append, List.append_nil, List.cons_append, List.contains_cons, List.contains_nil, Nat.reduceBEq, Bool.or_false, Bool.false_or, Bool.true_or, Bool.or_true, hf1, hf2, hf5, hf6, hf35, hf36, hf37, hHg, d0, d1, d2, d3, d4, d5, d6, w_u32, p1, c1, p2, p3, p4]
    exact ⟨_, _, _, _, rfl, by simp only [go_sem, reduceIte, Nat.reduceEqDiff, Nat.reduceAdd, Nat.reduceMul, Nat.reduceSub, Int.reduceLE, Int.reduceLT, Int.reduceNe, Int.reduceToNat, Int.reducePow, Int.reduceAdd, Int.reduceMul, reduceCtorEq, true_and, and_true, cond_true, cond_false, List.map_cons, List.map_nil, Option.map_some, Option.map_none, List.getElem?_cons_zero, List.getElem?_cons_succ, ne_eq, not_false_eq_true, List.nil_append, List.append_nil, List.cons_append, List.contains_cons, List.contains_nil, Nat.reduceBEq, Bool.or_false, Bool.false_or, Bool.true_or, Bool.or_true, hf1], by simp only [go_sem, reduceIte, Nat.reduceEqDiff, Nat.reduceAdd, Nat.reduceMul, Nat.reduceSub, Int.reduceLE, Int.reduceLT, Int.reduceNe, Int.reduceToNat, Int.reducePow, Int.reduceAdd, Int.reduceMul, reduceCtorEq, true_and, and_true, cond_true, cond_false, List.map_cons, List.map_nil, Option.map_some, Option.map_none, List.getElem?_cons_zero, List.getElem?_cons_succ, ne_eq, not_false_eq_true, List.nil_append, List.append_nil, List.cons_append, List.contains_cons, List.contains_nil, Nat.reduceBEq, Bool.or_false, Bool.false_or, Bool.true_or, Bool.or_true, hf2], by simp only [go_sem, reduceIte, Nat.reduceEqDiff, Nat.reduceAdd, Nat.reduceMul, Nat.reduceSub, Int.reduceLE, Int.reduceLT, Int.reduceNe, Int.reduceToNat, Int.reducePow, Int.reduceAdd, Int.reduceMul, reduceCtorEq, true_and, and_true, cond_true, cond_false, List.map_cons, List.map_nil, Option.map_some, Option.map_none, List.getElem?_cons_zero, List.getElem?_cons_succ, ne_eq, not_false_eq_true, List.nil_append, List.append_nil, List.cons_append, List.contains_cons, List.contains_nil, Nat.reduceBEq, Bool.or_false, Bool.false_or, Bool.true_or, Bool.or_true, hf35], by simp only [go_sem, reduceIte, Nat.reduceEqDiff, Nat.reduceAdd, Nat.reduceMul, Nat.reduceSub, Int.reduceLE, Int.reduceLT, Int.reduceNe, Int.reduceToNat, Int.reducePow, Int.reduceAdd, Int.reduceMul, reduceCtorEq, true_and, and_true, cond_true, cond_false, List.map_cons, List.map_nil, Option.map_some, Option.map_none, List.getElem?_cons_zero, List.getElem?_cons_succ, ne_eq, not_false_eq_true, List.nil_append, List.append_nil, List.cons_append, List.contains_cons, List.contains_nil, Nat.reduceBEq, Bool.or_false, Bool.false_or, Bool.true_or, Bool.or_true, hf36], by simp only [go_sem, reduceIte, Nat.reduceEqDiff, Nat.reduceAdd, Nat.reduceMul, Nat.reduceSub, Int.reduceLE, Int.reduceLT, Int.reduceNe, Int.reduceToNat, Int.reducePow, Int.reduceAdd, Int.reduceMul, reduceCtorEq, true_and, and_true, cond_true, cond_false, List.map_cons, List.map_nil, Option.map_some, Option.map_none, List.getElem?_cons_zero, List.getElem?_cons_succ, ne_eq, not_false_eq_true, List.nil_append, List.append_nil, List.cons_append, List.contains_cons, List.contains_nil, Nat.reduceBEq, Bool.or_false, Bool.false_or, Bool.true_or, Bool.or_true, hf37], by simp only [go_sem, reduceIte, Nat.reduceEqDiff, Nat.reduceAdd, Nat.reduceMul, Nat.reduceSub, Int.reduceLE, Int.reduceLT, Int.reduceNe, Int.reduceToNat, Int.reducePow, Int.reduceAdd, Int.reduceMul, reduceCtorEq, true_and, and_true, cond_true, cond_false, List.map_cons, List.map_nil, Option.map_some, Option.map_none, List.getElem?_cons_zero, List.getElem?_cons_succ, ne_eq, not_false_eq_true, List.nil_append, List.append_nil, List.cons_append, List.contains_cons, List.contains_nil, Nat.reduceBEq, Bool.or_false, Bool.false_or, Bool.true_or, Bool.or_true], by simp only [go_sem, reduceIte, Nat.reduceEqDiff, Nat.reduceAdd, Nat.reduceMul, Nat.reduceSub, Int.reduceLE, Int.reduceLT, Int.reduceNe, Int.reduceToNat, Int.reducePow, Int.reduceAdd, Int.reduceMul, reduceCtorEq, true_and, and_true, cond_true, cond_false, List.map_cons, List.map_nil, Option.map_some, Option.map_none, List.getElem?_cons_zero, List.getElem?_cons_succ, ne_eq, not_false_eq_true, List.nil_append, List.append_nil, List.cons_append, List.contains_cons, List.contains_nil, Nat.reduceBEq, Bool.or_false, Bool.false_or, Bool.true_or, Bool.or_true], t3⟩
  · have hen : encF x = leB 8 x.n := by simp [encF, hk]
    rw [hen]
    clear hen
    have d0 : (((x.kind % 8 : Nat) : Int) == 0) = false := by rw [hk]; rfl
    have d1 : (((x.kind % 8 : Nat) : Int) == 1) = false := by rw [hk]; rfl
    have d2 : (((x.kind % 8 : Nat) : Int) == 2) = false := by rw [hk]; rfl
    have d3 : (((x.kind % 8 : Nat) : Int) == 3) = true := by rw [hk]; rfl
    have d4 : (((x.kind % 8 : Nat) : Int) == 4) = false := by rw [hk]; rfl
    have d5 : (((x.kind % 8 : Nat) : Int) == 5) = false := by rw [hk]; rfl
    have d6 : (((x.kind % 8 : Nat) : Int) == 6) = false := by rw [hk]; rfl
    obtain ⟨_, p1, b1, h2, rfl, ho1, hg1⟩ := put64_con x.n (by omega) b es H htH.ob.bs (by omega) n (by omega)
    have t1 := htH.putB ho1 hg1
    have c1 := hcell h2 hg1.keep
    obtain ⟨_, p2, v3, h3, rfl, ho3, hg3⟩ := eight30_con x.n hxn h2 n (by omega)
    have t2 := t1.same hg3.keep
    obtain ⟨dd, h5, p4, ho5, hg5⟩ := append_own byte24 seq24 t2.od ho3.bs.news (by rw [leB_length]; omega)
    have t3 := t2.putD ho5 hg5
    simp only [go_sem, reduceIte, Nat.reduceEqDiff, Nat.reduceAdd, Nat.reduceMul, Nat.reduceSub, Int.reduceLE, Int.reduceLT, Int.reduceNe, Int.reduceToNat, Int.reducePow, Int.reduceAdd, Int.reduceMul, reduceCtorEq, true_and, and_true, cond_true, cond_false, List.map_cons, List.map_nil, Option.map_some, Option.map_none, List.getElem?_cons_zero, List.getElem?_cons_succ, ne_eq, not_false_eq_true, List.nil_append, List.append_nil, List.cons_append, List.contains_cons, List.contains_nil, Nat.reduceBEq, Bool.or_false, Bool.false_or, Bool.true_or, Bool.or_true, hf1, hf2, hf5, hf6, hf35, hf36, hf37, hHg, d0, d1, d2, d3, d4, d5, d6, p1, c1, p2, p4]
    exact ⟨_, _, _, _, rfl, by simp only [go_sem, reduceIte, Nat.reduceEqDiff, Nat.reduceAdd, Nat.reduceMul, Nat.reduceSub, Int.reduceLE, Int.reduceLT, Int.reduceNe, Int.reduceToNat, Int.reducePow, Int.reduceAdd, Int.reduceMul, reduceCtorEq, true_and, and_true, cond_true, cond_false, List.map_cons, List.map_nil, Option.map_some, Option.map_none, List.getElem?_cons_zero, List.getElem?_cons_succ, ne_eq, not_false_eq_true, List.nil_append, List.append_nil, List.cons_append, List.contains_cons, List.contains_nil, Nat.reduceBEq, Bool.or_false, Bool.false_or, Bool.true_or, Bool.or_true, hf1], by simp only [go_sem, reduceIte, Nat.reduceEqDiff, Nat.reduceAdd, Nat.reduceMul, Nat.reduceSub, Int.reduceLE, Int.reduceLT, Int.reduceNe, Int.reduceToNat, Int.reducePow, Int.reduceAdd, Int.reduceMul, reduceCtorEq, true_and, and_true, cond_true, cond_false, List.map_cons, List.map_nil, Option.map_some, Option.map_none, List.getElem?_cons_zero, List.getElem?_cons_succ, ne_eq, not_false_eq_true, List.nil_append, List.append_nil, List.cons_append, List.contains_cons, List.contains_nil, Nat.reduceBEq, Bool.or_false, Bool.false_or, Bool.true_or, Bool.or_true, hf2], by simp only [go_sem, reduceIte, Nat.reduceEqDiff, Nat.reduceAdd, Nat.reduceMul, Nat.reduceSub, Int.reduceLE, Int.reduceLT, Int.reduceNe, Int.reduceToNat, Int.reducePow, Int.reduceAdd, Int.reduceMul, reduceCtorEq, true_and, and_true, cond_true, cond_false, List.map_cons, List.map_nil, Option.map_some, Option.map_none, List.getElem?_cons_zero, List.getElem?_cons_succ, ne_eq, not_false_eq_true, List.nil_append, List.append_nil, List.cons_append, List.contains_cons, List.contains_nil, Nat.reduceBEq, Bool.or_false, Bool.false_or, Bool.true_or, Bool.or_true, hf35], by simp only [go_sem, reduceIte, Nat.reduceEqDiff, Nat.reduceAdd, Nat.reduceMul, Nat.reduceSub, Int.reduceLE, Int.reduceLT, Int.reduceNe, Int.reduceToNat, Int.reducePow, Int.reduceAdd, Int.reduceMul, reduceCtorEq, true_and, and_true, cond_true, cond_false, List.map_cons, List.map_nil, Option.map_some, Option.map_none, List.getElem?_cons_zero, List.getElem?_cons_succ, ne_eq, not_false_eq_true, List.nil_append, List.append_nil, List.cons_append, List.contains_cons, List.contains_nil, Nat.reduceBEq, Bool.or_false, Bool.false_or, Bool.true_or, Bool.or_true, hf36], by simp only [go_sem, reduceIte, Nat.reduceEqDiff, Nat.reduceAdd, Nat.reduceMul, Nat.reduceSub, Int.reduceLE, Int.reduceLT, Int.reduceNe, Int.reduceToNat, Int.reducePow, Int.reduceAdd, Int.reduceMul, reduceCtorEq, true_and, and_true, cond_true, cond_false, List.map_cons, List.map_nil, Option.map_some, Option.map_none, List.getElem?_cons_zero, List.getElem?_cons_succ, ne_eq, not_false_eq_true, List.nil_append, List.append_nil, List.cons_append, List.contains_cons, List.contains_nil, Nat.reduceBEq, Bool.or_false, Bool.false_or, Bool.true_or, Bool.or_true, hf37], by simp only [go_sem, reduceIte, Nat.reduceEqDiff, Nat.reduceAdd, Nat.reduceMul, Nat.reduceSub, Int.reduceLE, Int.reduceLT, Int.reduceNe, Int.reduceToNat, Int.reducePow, Int.reduceAdd, Int.reduceMul, reduceCtorEq, true_and, and_true, cond_true, cond_false, List.map_cons, List.map_nil, Option.map_some, Option.map_none, List.getElem?_cons_zero, List.getElem?_cons_succ, ne_eq, not_false_eq_true, List.nil_append, List.append_nil, List.cons_append, List.contains_cons, List.contains_nil, Nat.reduceBEq, Bool.or_false, Bool.false_or, Bool.true_or, Bool.or_true], by simp only [go_sem, reduceIte, Nat.reduceEqDiff, Nat.reduceAdd, Nat.reduceMul, Nat.reduceSub, Int.reduceLE, Int.reduceLT, Int.reduceNe, Int.reduceToNat, Int.reducePow, Int.reduceAdd, Int.reduceMul, reduceCtorEq, true_and, and_true, cond_true, cond_false, List.map_cons, List.map_nil, Option.map_some, Option.map_none, List.getElem?_cons_zero, List.getElem?_cons_succ, ne_eq, not_false_eq_true, List.nil_append, List.append_nil, List.cons_append, List.contains_cons, List.contains_nil, Nat.reduceBEq, Bool.or_false, Bool.false_or, Bool.true_or, Bool.or_true], t3⟩
  · have hen : encF x = shortB x.n := by simp [encF, hk]
    rw [hen]
    clear hen
    have d0 : (((x.kind % 8 : Nat) : Int) == 0) = false := by rw [hk]; rfl
    have d1 : (((x.kind % 8 : Nat) : Int) == 1) = false := by rw [hk]; rfl
    have d2 : (((x.kind % 8 : Nat) : Int) == 2) = false := by rw [hk]; rfl
    have d3 : (((x.kind % 8 : Nat) : Int) == 3) = false := by rw [hk]; rfl
    have d4 : (((x.kind % 8 : Nat) : Int) == 4) = true := by rw [hk]; rfl
    have d5 : (((x.kind % 8 : Nat) : Int) == 5) = false := by rw [hk]; rfl
    have d6 : (((x.kind % 8 : Nat) : Int) == 6) = false := by rw [hk]; rfl
    obtain ⟨_, p1, b1, h2, rfl, ho1, hg1⟩ := putUv_con x.n hxn b es H htH.ob.bs (by omega) n (by omega)
    have t1 := htH.putB ho1 hg1
    have c1 := hcell h2 hg1.keep
    obtain ⟨_, p2, v3, h3, rfl, ho3, hg3⟩ := short30_con x.n hxn h2 n (by omega)
    have hsl := shortB_len10 hxn
    have t2 := t1.same hg3.keep
    obtain ⟨dd, h5, p4, ho5, hg5⟩ := append_own byte24 seq24 t2.od ho3.bs.news (by omega)
    have t3 := t2.putD ho5 hg5
    simp only [go_sem, reduceIte, Nat.reduceEqDiff, Nat.reduceAdd, Nat.reduceMul, Nat.reduceSub, Int.reduceLE, Int.reduceLT, Int.reduceNe, Int.reduceToNat, Int.reducePow, Int.reduceAdd, Int.reduceMul, reduceCtorEq, true_and, and_true, cond_true, cond_false, List.map_cons, List.map_nil, Option.map_some, Option.map_none, List.getElem?_cons_zero, List.getElem?_cons_succ, ne_eq, not_false_eq_true, List.nil_append, List.append_nil, List.cons_append, List.contains_cons, List.contains_nil, Nat.reduceBEq, Bool.or_false, Bool.false_or, Bool.true_or, Bool.or_true, hf1, hf2, hf5, hf6, hf35, hf36, hf37, hHg, d0, d1, d2, d3, d4, d5, d6, p1, c1, p2, p4]
    exact ⟨_, _, _, _, rfl, by simp only [go_sem, reduceIte, Nat.reduceEqDiff, Nat.reduceAdd, Nat.reduceMul, Nat.reduceSub, Int.reduceLE, Int.reduceLT, Int.reduceNe, Int.reduceToNat, Int.reducePow, Int.reduceAdd, Int.reduceMul, reduceCtorEq, true_and, and_true, cond_true, cond_false, List.map_cons, List.map_nil, Option.map_some, Option.map_none, List.getElem?_cons_zero, List.getElem?_cons_succ, ne_eq, not_false_eq_true, List.nil_append, List.append_nil, List.cons_append, List.contains_cons, List.contains_nil, Nat.reduceBEq, Bool.or_false, Bool.false_or, Bool.true_or, Bool.or_true, hf1], by simp only [go_sem, reduceIte, Nat.reduceEqDiff, Nat.reduceAdd, Nat.reduceMul, Nat.reduceSub, Int.reduceLE, Int.reduceLT, Int.reduceNe, Int.reduceToNat, Int.reducePow, Int.reduceAdd, Int.reduceMul, reduceCtorEq, true_and, and_true, cond_true, cond_false, List.map_cons, List.map_nil, Option.map_some, Option.map_none, List.getElem?_cons_zero, List.getElem?_cons_succ, ne_eq, not_false_eq_true, List.nil_append, List.append_nil, List.cons_append, List.contains_cons, List.contains_nil, Nat.reduceBEq, Bool.or_false, Bool.false_or, Bool.true_or, Bool.or_true, hf2], by simp only [go_sem, reduceIte, Nat.reduceEqDiff, Nat.reduceAdd, Nat.reduceMul, Nat.reduceSub, Int.reduceLE, Int.reduceLT, Int.reduceNe, Int.reduceToNat, Int.reducePow, Int.reduceAdd, Int.reduceMul, reduceCtorEq, true_and, and_true, cond_true, cond_false, List.map_cons, List.map_nil, Option.map_some, Option.map_none, List.getElem?_cons_zero, List.getElem?_cons_succ, ne_eq, not_false_eq_true, List.nil_append, List.append_nil, List.cons_append, List.contains_cons, List.contains_nil, Nat.reduceBEq, Bool.or_false, Bool.false_or, Bool.true_or, Bool.or_true, hf35], by simp only [go_sem, reduceIte, Nat.reduceEqDiff, Nat.reduceAdd, Nat.reduceMul, Nat.reduceSub, Int.reduceLE, Int.reduceLT, Int.reduceNe, Int.reduceToNat, Int.reducePow, Int.reduceAdd, Int.reduceMul, reduceCtorEq, true_and, and_true, cond_true, cond_false, List.map_cons, List.map_nil, Option.map_some, Option.map_none, List.getElem?_cons_zero, List.getElem?_cons_succ, ne_eq, not_false_eq_true, List.nil_append, List.append_nil, List.cons_append, List.contains_cons, List.contains_nil, Nat.reduceBEq, Bool.or_false, Bool.false_or, Bool.true_or, Bool.or_true, hf36], by simp only [go_sem, reduceIte, Nat.reduceEqDiff, Nat.reduceAdd, Nat.reduceMul, Nat.reduceSub, Int.reduceLE, Int.reduceLT, Int.reduceNe, Int.reduceToNat, Int.reducePow, Int.reduceAdd, Int.reduceMul, reduceCtorEq, true_and, and_true, cond_true, cond_false, List.map_cons, List.map_nil, Option.map_some, Option.map_none, List.getElem?_cons_zero, List.getElem?_cons_succ, ne_eq, not_false_eq_true, List.nil_append, List.append_nil, List.cons_append, List.contains_cons, List.contains_nil, Nat.reduceBEq, Bool.or_false, Bool.false_or, Bool.true_or, Bool.or_true, hf37], by simp only [go_sem, reduceIte, Nat.reduceEqDiff, Nat.reduceAdd, Nat.reduceMul, Nat.reduceSub, Int.reduceLE, Int.reduceLT, Int.reduceNe, Int.reduceToNat, Int.reducePow, Int.reduceAdd, Int.reduceMul, reduceCtorEq, true_and, and_true, cond_true, cond_false, List.map_cons, List.map_nil, Option.map_some, Option.map_none, List.getElem?_cons_zero, List.getElem?_cons_succ, ne_eq, not_false_eq_true, List.nil_append, List.append_nil, List.cons_append, List.contains_cons, List.contains_nil, Nat.reduceBEq, Bool.or_false, Bool.false_or, Bool.true_or, Bool.or_true], by simp only [go_sem, reduceIte, Nat.reduceEqDiff, Nat.reduceAdd, Nat.reduceMul, Nat.reduceSub, Int.reduceLE, Int.reduceLT, Int.reduceNe, Int.reduceToNat, Int.reducePow, Int.reduceAdd, Int.reduceMul, reduceCtorEq, true_and, and_true, cond_true, cond_false, List.map_cons, List.map_nil, Option.map_some, Option.map_none, List.getElem?_cons_zero, List.getElem?_cons_succ, ne_eq, not_false_eq_true, List.nil_append, List.append_nil, List.cons_append, List.contains_cons, List.contains_nil, Nat.reduceBEq, Bool.or_false, Bool.false_or, Bool.true_or, Bool.or_true], t3⟩
  · have hen : encF x = shortB (zigN (IntKind.i64.wrap (x.n : Nat))) := by simp [encF, hk]
    rw [hen]
    clear hen
    have d0 : (((x.kind % 8 : Nat) : Int) == 0) = false := by rw [hk]; rfl
    have d1 : (((x.kind % 8 : Nat) : Int) == 1) = false := by rw [hk]; rfl
    have d2 : (((x.kind % 8 : Nat) : Int) == 2) = false := by rw [hk]; rfl
    have d3 : (((x.kind % 8 : Nat) : Int) == 3) = false := by rw [hk]; rfl
    have d4 : (((x.kind % 8 : Nat) : Int) == 4) = false := by rw [hk]; rfl
    have d5 : (((x.kind % 8 : Nat) : Int) == 5) = true := by rw [hk]; rfl
    have d6 : (((x.kind % 8 : Nat) : Int) == 6) = false := by rw [hk]; rfl
    obtain ⟨_, p1, b1, h2, rfl, ho1, hg1⟩ := putV_con (IntKind.i64.wrap (x.n : Nat)) hi64.1 hi64.2 b es H htH.ob.bs (by omega) n (by omega)
    have t1 := htH.putB ho1 hg1
    have c1 := hcell h2 hg1.keep
    obtain ⟨_, p2, v3, h3, rfl, ho3, hg3⟩ := varint30_con (IntKind.i64.wrap (x.n : Nat)) hi64.1 hi64.2 h2 n (by omega)
    have hsl := shortB_len10 (zigN_lt _ hi64.1 hi64.2)
    have t2 := t1.same hg3.keep
    obtain ⟨dd, h5, p4, ho5, hg5⟩ := append_own byte24 seq24 t2.od ho3.bs.news (by omega)
    have t3 := t2.putD ho5 hg5
    simp only [go_sem, reduceIte, Nat.reduceEqDiff, Nat.reduceAdd, Nat.reduceMul, Nat.reduceSub, Int.reduceLE, Int.reduceLT, Int.reduceNe, Int.reduceToNat, Int.reducePow, Int.reduceAdd, Int.reduceMul, reduceCtorEq, true_and, and_true, cond_true, cond_false, List.map_cons, List.map_nil, Option.map_some, Option.map_none, List.getElem?_cons_zero, List.getElem?_cons_succ, ne_eq, not_false_eq_true, List.nil_append, List.append_nil, List.cons_append, List.contains_cons, List.contains_nil, Nat.reduceBEq, Bool.or_false, Bool.false_or, Bool.true_or, Bool.or_true, hf1, hf2, hf5, hf6, hf35, hf36, hf37, hHg, d0, d1, d2, d3, d4, d5, d6, p1, c1, p2, p4]
    exact ⟨_, _, _, _, rfl, by simp only [go_sem, reduceIte, Nat.reduceEqDiff, Nat.reduceAdd, Nat.reduceMul, Nat.reduceSub, Int.reduceLE, Int.reduceLT, Int.reduceNe, Int.reduceToNat, Int.reducePow, Int.reduceAdd, Int.reduceMul, reduceCtorEq, true_and, and_true, cond_true, cond_false, List.map_cons, List.map_nil, Option.map_some, Option.map_none, List.getElem?_cons_zero, List.getElem?_cons_succ, ne_eq, not_false_eq_true, List.nil_append, List.append_nil, List.cons_append, List.contains_cons, List.contains_nil, Nat.reduceBEq, Bool.or_false, Bool.false_or, Bool.true_or, Bool.or_true, hf1], by simp only [go_sem, reduceIte, Nat.reduceEqDiff, Nat.reduceAdd, Nat.reduceMul, Nat.reduceSub, Int.reduceLE, Int.reduceLT, Int.reduceNe, Int.reduceToNat, Int.reducePow, Int.reduceAdd, Int.reduceMul, reduceCtorEq, true_and, and_true, cond_true, cond_false, List.map_cons, List.map_nil, Option.map_some, Option.map_none, List.getElem?_cons_zero, List.getElem?_cons_succ, ne_eq, not_false_eq_true, List.nil_append, List.append_nil, List.cons_append, List.contains_cons, List.contains_nil, Nat.reduceBEq, Bool.or_false, Bool.false_or, Bool.true_or, Bool.or_true, hf2], by simp only [go_sem, reduceIte, Nat.reduceEqDiff, Nat.reduceAdd, Nat.reduceMul, Nat.reduceSub, Int.reduceLE, Int.reduceLT, Int.reduceNe, Int.reduceToNat, Int.reducePow, Int.reduceAdd, Int.reduceMul, reduceCtorEq, true_and, and_true, cond_true, cond_false, List.map_cons, List.map_nil, Option.map_some, Option.map_none, List.getElem?_cons_zero, List.getElem?_cons_succ, ne_eq, not_false_eq_true, List.nil_append, List.append_nil, List.cons_append, List.contains_cons, List.contains_nil, Nat.reduceBEq, Bool.or_false, Bool.false_or, Bool.true_or, Bool.or_true, hf35], by simp only [go_sem, reduceIte, Nat.reduceEqDiff, Nat.reduceAdd, Nat.reduceMul, Nat.reduceSub, Int.reduceLE, Int.reduceLT, Int.reduceNe, Int.reduceToNat, Int.reducePow, Int.reduceAdd, Int.reduceMul, reduceCtorEq, true_and, and_true, cond_true, cond_false, List.map_cons, List.map_nil, Option.map_some, Option.map_none, List.getElem?_cons_zero, List.getElem?_cons_succ, ne_eq, not_false_eq_true, List.nil_append, List.append_nil, List.cons_append, List.contains_cons, List.contains_nil, Nat.reduceBEq, Bool.or_false, Bool.false_or, Bool.true_or, Bool.or_true, hf36], by simp only [go_sem, reduceIte, Nat.reduceEqDiff, Nat.reduceAdd, Nat.reduceMul, Nat.reduceSub, Int.reduceLE, Int.reduceLT, Int.reduceNe, Int.reduceToNat, Int.reducePow, Int.reduceAdd, Int.reduceMul, reduceCtorEq, true_and, and_true, cond_true, cond_false, List.map_cons, List.map_nil, Option.map_some, Option.map_none, List.getElem?_cons_zero, List.getElem?_cons_succ, ne_eq, not_false_eq_true, List.nil_append, List.append_nil, List.cons_append, List.contains_cons, List.contains_nil, Nat.reduceBEq, Bool.or_false, Bool.false_or, Bool.true_or, Bool.or_true, hf37], by simp only [go_sem, reduceIte, Nat.reduceEqDiff, Nat.reduceAdd, Nat.reduceMul, Nat.reduceSub, Int.reduceLE, Int.reduceLT, Int.reduceNe, Int.reduceToNat, Int.reducePow, Int.reduceAdd, Int.reduceMul, reduceCtorEq, true_and, and_true, cond_true, cond_false, List.map_cons, List.map_nil, Option.map_some, Option.map_none, List.getElem?_cons_zero, List.getElem?_cons_succ, ne_eq, not_false_eq_true, List.nil_append, List.append_nil, List.cons_append, List.contains_cons, List.contains_nil, Nat.reduceBEq, Bool.or_false, Bool.false_or, Bool.true_or, Bool.or_true], by simp only [go_sem, reduceIte, Nat.reduceEqDiff, Nat.reduceAdd, Nat.reduceMul, Nat.reduceSub, Int.reduceLE, Int.reduceLT, Int.reduceNe, Int.reduceToNat, Int.reducePow, Int.reduceAdd, Int.reduceMul, reduceCtorEq, true_and, and_true, cond_true, cond_false, List.map_cons, List.map_nil, Option.map_some, Option.map_none, List.getElem?_cons_zero, List.getElem?_cons_succ, ne_eq, not_false_eq_true, List.nil_append, List.append_nil, List.cons_append, List.contains_cons, List.contains_nil, Nat.reduceBEq, Bool.or_false, Bool.false_or, Bool.true_or, Bool.or_true], t3⟩
  · have hen : encF x = blockB x.raw12 := by simp [encF, hk]
    rw [hen]
    clear hen
    have d0 : (((x.kind % 8 : Nat) : Int) == 0) = false := by rw [hk]; rfl
    have d1 : (((x.kind % 8 : Nat) : Int) == 1) = false := by rw [hk]; rfl
    have d2 : (((x.kind % 8 : Nat) : Int) == 2) = false := by rw [hk]; rfl
    have d3 : (((x.kind % 8 : Nat) : Int) == 3) = false := by rw [hk]; rfl
    have d4 : (((x.kind % 8 : Nat) : Int) == 4) = false := by rw [hk]; rfl
    have d5 : (((x.kind % 8 : Nat) : Int) == 5) = false := by rw [hk]; rfl
    have d6 : (((x.kind % 8 : Nat) : Int) == 6) = true := by rw [hk]; rfl
    have q0 := Keep.push H (.cells [] 5 .own)
    obtain ⟨v2, h2, p1, ho2, hg2⟩ := append_own byte24 seq24 (own_none (h := H)) (hv8k _ q0).news (by simp; omega)
    rw [List.nil_append] at ho2
    have g2 : Grew H h2 .nils v2 := hg2.fresh0 rfl
    have t2 := htH.same g2.keep
    obtain ⟨_, p2, b3, h3, rfl, ho3, hg3⟩ := putB_con b v2 es x.raw12 h2 t2.ob.bs ho2.bs ho2.lt (by omega) n (by omega)
    have t3 := t2.putB ho3 hg3
    obtain ⟨_, p3, v4, h4, rfl, ho4, hg4⟩ := block30_con x.raw12 h3 (by omega) n (by omega)
    have t4 := t3.same hg4.keep
    have hbl := blockB_len x.raw12
    have hsl := shortB_len10 (n := x.raw12.length) (by omega)
    obtain ⟨dd5, h5, p4, ho5, hg5⟩ := append_own byte24 seq24 t4.od ho4.bs.news (by rw [List.length_append]; omega)
    have t5 := t4.putD ho5 hg5
    have k2 : Keep H h2 [] := g2.keep
    have k3 : Keep H h3 [] := (k2.trans hg3.keep).mono (by simp [ids])
    rw [List.append_assoc] at t5
    simp only [go_sem, reduceIte, Nat.reduceEqDiff, Nat.reduceAdd, Nat.reduceMul, Nat.reduceSub, Int.reduceLE, Int.reduceLT, Int.reduceNe, Int.reduceToNat, Int.reducePow, Int.reduceAdd, Int.reduceMul, reduceCtorEq, true_and, and_true, cond_true, cond_false, List.map_cons, List.map_nil, Option.map_some, Option.map_none, List.getElem?_cons_zero, List.getElem?_cons_succ, ne_eq, not_false_eq_true, List.nil_append, List.append_nil, List.cons_append, List.contains_cons, List.contains_nil, Nat.reduceBEq, Bool.or_false, Bool.false_or, Bool.true_or, Bool.or_true, hf1, hf2, hf5, hf6, hf35, hf36, hf37, hHg, d0, d1, d2, d3, d4, d5, d6, hcv H (Keep.refl H), hcv _ q0, hcv h2 k2, hcv h3 k3, build_none, p1, p2, p3, p4]
    exact ⟨_, _, _, _, rfl, by simp only [go_sem, reduceIte, Nat.reduceEqDiff, Nat.reduceAdd, Nat.reduceMul, Nat.reduceSub, Int.reduceLE, Int.reduceLT, Int.reduceNe, Int.reduceToNat, Int.reducePow, Int.reduceAdd, Int.reduceMul, reduceCtorEq, true_and, and_true, cond_true, cond_false, List.map_cons, List.map_nil, Option.map_some, Option.map_none, List.getElem?_cons_zero, List.getElem?_cons_succ, ne_eq, not_false_eq_true, List.nil_append, List.append_nil, List.cons_append, List.contains_cons, List.contains_nil, Nat.reduceBEq, Bool.or_false, Bool.false_or, Bool.true_or, Bool.or_true, hf1], by simp only [go_sem, reduceIte, Nat.reduceEqDiff, Nat.reduceAdd, Nat.reduceMul, Nat.reduceSub, Int.reduceLE, Int.reduceLT, Int.reduceNe, Int.reduceToNat, Int.reducePow, Int.reduceAdd, Int.reduceMul, reduceCtorEq, true_and, and_true, cond_true, cond_false, List.map_cons, List.map_nil, Option.map_some, Option.map_none, List.getElem?_cons_zero, List.getElem?_cons_succ, ne_eq, not_false_eq_true, List.nil_append, List.append_nil, List.cons_append, List.contains_cons, List.contains_nil, Nat.reduceBEq, Bool.or_false, Bool.false_or, Bool.true_or, Bool.or_true, hf2], by simp only [go_sem, reduceIte, Nat.reduceEqDiff, Nat.reduceAdd, Nat.reduceMul, Nat.reduceSub, Int.reduceLE, Int.reduceLT, Int.reduceNe, Int.reduceToNat, Int.reducePow, Int.reduceAdd, Int.reduceMul, reduceCtorEq, true_and, and_true, cond_true, cond_false, List.map_cons, List.map_nil, Option.map_some, Option.map_none, List.getElem?_cons_zero, List.getElem?_cons_succ, ne_eq, not_false_eq_true, List.nil_append, List.append_nil, List.cons_append, List.contains_cons, List.contains_nil, Nat.reduceBEq, Bool.or_false, Bool.false_or, Bool.true_or, Bool.or_true, hf35], by simp only [go_sem, reduceIte, Nat.reduceEqDiff, Nat.reduceAdd, Nat.reduceMul, Nat.reduceSub, Int.reduceLE, Int.reduceLT, Int.reduceNe, Int.reduceToNat, Int.reducePow, Int.reduceAdd, Int.reduceMul, reduceCtorEq, true_and, and_true, cond_true, cond_false, List.map_cons, List.map_nil, Option.map_some, Option.map_none, List.getElem?_cons_zero, List.getElem?_cons_succ, ne_eq, not_false_eq_true, List.nil_append, List.append_nil, List.cons_append, List.contains_cons, List.contains_nil, Nat.reduceBEq, Bool.or_false, Bool.false_or, Bool.true_or, Bool.or_true, hf36], by simp only [go_sem, reduceIte, Nat.reduceEqDiff, Nat.reduceAdd, Nat.reduceMul, Nat.reduceSub, Int.reduceLE, Int.reduceLT, Int.reduceNe, Int.reduceToNat, Int.reducePow, Int.reduceAdd, Int.reduceMul, reduceCtorEq, true_and, and_true, cond_true, cond_false, List.map_cons, List.map_nil, Option.map_some, Option.map_none, List.getElem?_cons_zero, List.getElem?_cons_succ, ne_eq, not_false_eq_true, List.nil_append, List.append_nil, List.cons_append, List.contains_cons, List.contains_nil, Nat.reduceBEq, Bool.or_false, Bool.false_or, Bool.true_or, Bool.or_true, hf37], by simp only [go_sem, reduceIte, Nat.reduceEqDiff, Nat.reduceAdd, Nat.reduceMul, Nat.reduceSub, Int.reduceLE, Int.reduceLT, Int.reduceNe, Int.reduceToNat, Int.reducePow, Int.reduceAdd, Int.reduceMul, reduceCtorEq, true_and, and_true, cond_true, cond_false, List.map_cons, List.map_nil, Option.map_some, Option.map_none, List.getElem?_cons_zero, List.getElem?_cons_succ, ne_eq, not_false_eq_true, List.nil_append, List.append_nil, List.cons_append, List.contains_cons, List.contains_nil, Nat.reduceBEq, Bool.or_false, Bool.false_or, Bool.true_or, Bool.or_true], by simp only [go_sem, reduceIte, Nat.reduceEqDiff, Nat.reduceAdd, Nat.reduceMul, Nat.reduceSub, Int.reduceLE, Int.reduceLT, Int.reduceNe, Int.reduceToNat, Int.reducePow, Int.reduceAdd, Int.reduceMul, reduceCtorEq, true_and, and_true, cond_true, cond_false, List.map_cons, List.map_nil, Option.map_some, Option.map_none, List.getElem?_cons_zero, List.getElem?_cons_succ, ne_eq, not_false_eq_true, List.nil_append, List.append_nil, List.cons_append, List.contains_cons, List.contains_nil, Nat.reduceBEq, Bool.or_false, Bool.false_or, Bool.true_or, Bool.or_true], t5⟩
  · have hen : encF x = shortB 2 ++ flatT [x.raw12, x.raw12.drop (x.raw12.length / 2)] := by simp [encF, hk]
    rw [hen]
    clear hen
    have d0 : (((x.kind % 8 : Nat) : Int) == 0) = false := by rw [hk]; rfl
    have d1 : (((x.kind % 8 : Nat) : Int) == 1) = false := by rw [hk]; rfl
    have d2 : (((x.kind % 8 : Nat) : Int) == 2) = false := by rw [hk]; rfl
    have d3 : (((x.kind % 8 : Nat) : Int) == 3) = false := by rw [hk]; rfl
    have d4 : (((x.kind % 8 : Nat) : Int) == 4) = false := by rw [hk]; rfl
    have d5 : (((x.kind % 8 : Nat) : Int) == 5) = false := by rw [hk]; rfl
    have d6 : (((x.kind % 8 : Nat) : Int) == 6) = false := by rw [hk]; rfl
    have q0 := Keep.push H (.cells [.str x.raw12, .str (x.raw12.drop (x.raw12.length / 2))] 9 .own)
    have hw2 : IntKind.i64.wrap ((x.raw12.length / 2 : Nat) : Int) = ((x.raw12.length / 2 : Nat) : Int) := w_i64_in _ (by omega)
    have hlen8 : qBuiltin E0 H .len [v8] [24] = some (.int .i64 (x.raw12.length : Nat)) := len_bytes byte24 hv8
    obtain ⟨v9, p9, hv9, hv9i⟩ := slice_last (hv8k H (Keep.refl H)) (k := x.raw12.length / 2) (by omega)
    have hcv9 : ∀ h' : AH, Keep H h' [] → aConvQ E0 h' 24 9 v9 = some (.str (x.raw12.drop (x.raw12.length / 2))) := fun h' k => conv_bytes byte24 str9 (hv9.keep k (by simp))
    have hbt : aBuildSlice E0 H 48 2 [(0, .str x.raw12), (1, .str (x.raw12.drop (x.raw12.length / 2)))] = some (.sl H.next 0 2 2 false, H.push (.cells [.str x.raw12, .str (x.raw12.drop (x.raw12.length / 2))] 9 .own)) := build_texts
    have hts : TS (H.push (.cells [.str x.raw12, .str (x.raw12.drop (x.raw12.length / 2))] 9 .own)) (.sl H.next 0 2 2 false) [x.raw12, x.raw12.drop (x.raw12.length / 2)] := by
      refine ⟨_, 0, 2, false, _, _, _, rfl, Nat.lt_succ_self _, get_push_new rfl, fun j s hj => ?_⟩
      match j with
      | 0 => simp at hj; subst hj; rfl
      | 1 => simp at hj; subst hj; rfl
      | j + 2 => simp at hj
    have t1 := htH.same q0
    obtain ⟨_, p2, b2, h2, rfl, ho2, hg2⟩ := putTexts_con b _ es _ _ t1.ob.bs hts (by simp) (by
      intro s hs
      simp at hs
      rcases hs with rfl | rfl
      · omega
      · simp; omega) (by omega) n (by omega)
    have t2 := t1.putB ho2 hg2
    obtain ⟨dd3, h3, p3, ho3, hg3⟩ := append_byte (b := 2) t2.od (by omega) (by omega)
    have p3 : eBuiltin E0 (h2.push (.cells [.int .u8 2] 5 .own)) .append [d, .sl h2.next 0 1 1 false] [24, 24] = some (dd3, h3) := p3
    have t3 := t2.putD ho3 hg3
    obtain ⟨_, p4, v4, h4, rfl, ho4, hg4⟩ := block30_con x.raw12 h3 (by omega) n (by omega)
    have t4 := t3.same hg4.keep
    have hsl := shortB_len10 (n := x.raw12.length) (by omega)
    obtain ⟨dd5, h5, p5, ho5, hg5⟩ := append_own byte24 seq24 t4.od ho4.bs.news (by simp only [List.length_append, List.length_cons, List.length_nil]; omega)
    have t5 := t4.putD ho5 hg5
    have hdl : (x.raw12.drop (x.raw12.length / 2)).length ≤ 12 := by simp; omega
    have hsl2 := shortB_len10 (n := (x.raw12.drop (x.raw12.length / 2)).length) (by omega)
    obtain ⟨_, p6, v6, h6, rfl, ho6, hg6⟩ := block30_con (x.raw12.drop (x.raw12.length / 2)) h5 (by omega) n (by omega)
    have t6 := t5.same hg6.keep
    obtain ⟨dd7, h7, p7, ho7, hg7⟩ := append_own byte24 seq24 t6.od ho6.bs.news (by simp only [List.length_append, List.length_cons, List.length_nil]; omega)
    have t7 := t6.putD ho7 hg7
    have k2 : Keep H h2 [] := (q0.trans hg2.keep).mono (by simp [ids])
    have kp : Keep H (h2.push (.cells [.int .u8 2] 5 .own)) [] := (k2.trans (Keep.push h2 _)).mono (by simp)
    have kd : ∀ j ∈ ids d, H.next ≤ j ∨ hb.next ≤ j := fun j hj => .inr (htH.df j hj)
    have hv8f : ∀ h' : AH, BS h' v8 x.raw12 → aConvQ E0 h' 24 9 v8 = some (.str x.raw12) := fun h' hb => conv_bytes byte24 str9 hb
    have b0 : ∀ j ∈ ids v8, j < hb.next := fun j hj => by have := hv8B j hj; omega
    have b1 : ∀ j ∈ ids v9, j < hb.next := fun j hj => b0 j (hv9i j hj)
    have q2 := htH.keep
    have s3 : BS h3 v8 x.raw12 := (hv8k h2 k2).keep hg3.keep (fun j hj hx => by have := t2.df j hx; have := b0 j hj; omega)
    have s4 : BS h4 v8 x.raw12 := s3.keep hg4.keep (by simp [ids])
    have s5 : BS h5 v8 x.raw12 := s4.keep hg5.keep (fun j hj hx => by have := t4.df j hx; have := b0 j hj; omega)
    have r2 : BS h2 v9 (x.raw12.drop (x.raw12.length / 2)) := hv9.keep k2 (by simp)
    have r3 : BS h3 v9 (x.raw12.drop (x.raw12.length / 2)) := r2.keep hg3.keep (fun j hj hx => by have := t2.df j hx; have := b1 j hj; omega)
    have r4 : BS h4 v9 (x.raw12.drop (x.raw12.length / 2)) := r3.keep hg4.keep (by simp [ids])
    have r5 : BS h5 v9 (x.raw12.drop (x.raw12.length / 2)) := r4.keep hg5.keep (fun j hj hx => by have := t4.df j hx; have := b1 j hj; omega)
    have es1 : es ++ shortB [x.raw12, x.raw12.drop (x.raw12.length / 2)].length ++ flatT [x.raw12, x.raw12.drop (x.raw12.length / 2)] = es ++ (shortB 2 ++ flatT [x.raw12, x.raw12.drop (x.raw12.length / 2)]) := by
      rw [List.append_assoc]; rfl
    have es2 : es ++ [UInt8.ofNat 2] ++ (shortB x.raw12.length ++ x.raw12) ++ (shortB (x.raw12.drop (x.raw12.length / 2)).length ++ x.raw12.drop (x.raw12.length / 2)) = es ++ (shortB 2 ++ flatT [x.raw12, x.raw12.drop (x.raw12.length / 2)]) := by
      rw [shortB_small (show 2 < 128 by omega)]
      simp [flatT]
    rw [es1, es2] at t7
    simp only [go_sem, reduceIte, Nat.reduceEqDiff, Nat.reduceAdd, Nat.reduceMul, Nat.reduceSub, Int.reduceLE, Int.reduceLT, Int.reduceNe, Int.reduceToNat, Int.reducePow, Int.reduceAdd, Int.reduceMul, reduceCtorEq, true_and, and_true, cond_true, cond_false, List.map_cons, List.map_nil, Option.map_some, Option.map_none, List.getElem?_cons_zero, List.getElem?_cons_succ, ne_eq, not_false_eq_true, List.nil_append, List.append_nil, List.cons_append, List.contains_cons, List.contains_nil, Nat.reduceBEq, Bool.or_false, Bool.false_or, Bool.true_or, Bool.or_true, hf1, hf2, hf5, hf6, hf35, hf36, hf37, hHg, d0, d1, d2, d3, d4, d5, d6, hlen8, tdiv2, hw2, p9, hcv H (Keep.refl H), hcv9 H (Keep.refl H), hbt, p2, hcv h2 k2, hcv9 h2 k2, hcv _ kp, hcv9 _ kp, build_byte, p3, hv8f h3 s3, hv8f h4 s4, conv_bytes byte24 str9 r3, conv_bytes byte24 str9 r4, conv_bytes byte24 str9 r5, p4, p5, p6, p7]
    exact ⟨_, _, _, _, rfl, by simp only [go_sem, reduceIte, Nat.reduceEqDiff, Nat.reduceAdd, Nat.reduceMul, Nat.reduceSub, Int.reduceLE, Int.reduceLT, Int.reduceNe, Int.reduceToNat, Int.reducePow, Int.reduceAdd, Int.reduceMul, reduceCtorEq, true_and, and_true, cond_true, cond_false, List.map_cons, List.map_nil, Option.map_some, Option.map_none, List.getElem?_cons_zero, List.getElem?_cons_succ, ne_eq, not_false_eq_true, List.nil_append, List.append_nil, List.cons_append, List.contains_cons, List.contains_nil, Nat.reduceBEq, Bool.or_false, Bool.false_or, Bool.true_or, Bool.or_true, hf1], by simp only [go_sem, reduceIte, Nat.reduceEqDiff, Nat.reduceAdd, Nat.reduceMul, Nat.reduceSub, Int.reduceLE, Int.reduceLT, Int.reduceNe, Int.reduceToNat, Int.reducePow, Int.reduceAdd, Int.reduceMul, reduceCtorEq, true_and, and_true, cond_true, cond_false, List.map_cons, List.map_nil, Option.map_some, Option.map_none, List.getElem?_cons_zero, List.getElem?_cons_succ, ne_eq, not_false_eq_true, List.nil_append, List.append_nil, List.cons_append, List.contains_cons, List.contains_nil, Nat.reduceBEq, Bool.or_false, Bool.false_or, Bool.true_or, Bool.or_true, hf2], by simp only [go_sem, reduceIte, Nat.reduceEqDiff, Nat.reduceAdd, Nat.reduceMul, Nat.reduceSub, Int.reduceLE, Int.reduceLT, Int.reduceNe, Int.reduceToNat, Int.reducePow, Int.reduceAdd, Int.reduceMul, reduceCtorEq, true_and, and_true, cond_true, cond_false, List.map_cons, List.map_nil, Option.map_some, Option.map_none, List.getElem?_cons_zero, List.getElem?_cons_succ, ne_eq, not_false_eq_true, List.nil_append, List.append_nil, List.cons_append, List.contains_cons, List.contains_nil, Nat.reduceBEq, Bool.or_false, Bool.false_or, Bool.true_or, Bool.or_true, hf35], by simp only [go_sem, reduceIte, Nat.reduceEqDiff, Nat.reduceAdd, Nat.reduceMul, Nat.reduceSub, Int.reduceLE, Int.reduceLT, Int.reduceNe, Int.reduceToNat, Int.reducePow, Int.reduceAdd, Int.reduceMul, reduceCtorEq, true_and, and_true, cond_true, cond_false, List.map_cons, List.map_nil, Option.map_some, Option.map_none, List.getElem?_cons_zero, List.getElem?_cons_succ, ne_eq, not_false_eq_true, List.nil_append, List.append_nil, List.cons_append, List.contains_cons, List.contains_nil, Nat.reduceBEq, Bool.or_false, Bool.false_or, Bool.true_or, Bool.or_true, hf36], by simp only [go_sem, reduceIte, Nat.reduceEqDiff, Nat.reduceAdd, Nat.reduceMul, Nat.reduceSub, Int.reduceLE, Int.reduceLT, Int.reduceNe, Int.reduceToNat, Int.reducePow, Int.reduceAdd, Int.reduceMul, reduceCtorEq, true_and, and_true, cond_true, cond_false, List.map_cons, List.map_nil, Option.map_some, Option.map_none, List.getElem?_cons_zero, List.getElem?_cons_succ, ne_eq, not_false_eq_true, List.nil_append, List.append_nil, List.cons_append, List.contains_cons, List.contains_nil, Nat.reduceBEq, Bool.or_false, Bool.false_or, Bool.true_or, Bool.or_true, hf37], by simp only [go_sem, reduceIte, Nat.reduceEqDiff, Nat.reduceAdd, Nat.reduceMul, Nat.reduceSub, Int.reduceLE, Int.reduceLT, Int.reduceNe, Int.reduceToNat, Int.reducePow, Int.reduceAdd, Int.reduceMul, reduceCtorEq, true_and, and_true, cond_true, cond_false, List.map_cons, List.map_nil, Option.map_some, Option.map_none, List.getElem?_cons_zero, List.getElem?_cons_succ, ne_eq, not_false_eq_true, List.nil_append, List.append_nil, List.cons_append, List.contains_cons, List.contains_nil, Nat.reduceBEq, Bool.or_false, Bool.false_or, Bool.true_or, Bool.or_true], by simp only [go_sem, reduceIte, Nat.reduceEqDiff, Nat.reduceAdd, Nat.reduceMul, Nat.reduceSub, Int.reduceLE, Int.reduceLT, Int.reduceNe, Int.reduceToNat, Int.reducePow, Int.reduceAdd, Int.reduceMul, reduceCtorEq, true_and, and_true, cond_true, cond_false, List.map_cons, List.map_nil, Option.map_some, Option.map_none, List.getElem?_cons_zero, List.getElem?_cons_succ, ne_eq, not_false_eq_true, List.nil_append, List.append_nil, List.cons_append, List.contains_cons, List.contains_nil, Nat.reduceBEq, Bool.or_false, Bool.false_or, Bool.true_or, Bool.or_true], t7⟩
end Go.Proofs.Yteblojfcalgoeaa

/- Seat 1: TopCoded: what was put is read. Conditions: none. -/
namespace Go.Proofs.Yteblojfcalgoeaa
open Go Go.RowKit
set_option maxRecDepth 100000
set_option linter.unusedSimpArgs false
set_option linter.unusedVariables false

/-- Behind the readings. -/
structure PB (B bx : Nat) (h0 : AH) (l : List It) (fr : Nat → AV) (h' : AH) : Prop where
  f2 : fr 2 = .ptr bx 0
  lt : bx < h'.next
  ex : ∃ lv, h'.get bx = .cells [lv] 22 .own ∧ ItS B h' lv l
  keep : Keep h0 h' []

@[go_sem] theorem conv_23_3 {h : AH} {k : IntKind} {n : Int} : aConvQ E0 h 23 3 (.int k n) = some (.int .i64 (IntKind.i64.wrap n)) := conv_int ty23 int3
theorem tmod_nat (a b : Nat) : Int.tmod (a : Int) (b : Int) = ((a % b : Nat) : Int) := by
  rw [Int.tmod_eq_emod_of_nonneg (by omega)]; norm_cast

set_option maxHeartbeats 4000000 in
theorem topB {B bx : Nat} {h0 : AH} {cut : Nat} {l : List It} {fr : Nat → AV} {h : AH} (hp : PA B bx h0 cut l fr h) (hcut : cut < 65536) (hl20 : l.length ≤ 20) (n : Nat) (hn : 20 ≤ n) (Q : CR → Prop)
    (hQ : ∀ fr' h', PB B bx h0 l fr' h' → wCode E0 (aCall E0 sp0 100000 n) 100000 lc3_50 fr' h' Q) : wCode E0 (aCall E0 sp0 100000 n) 100000 lc3_35 fr h Q := by
  obtain ⟨f1, f2, ⟨lv, b, d, hb, f5, f6, hg, hl, ht, hbx⟩, hk, hle⟩ := hp
  have hxs : ∀ x ∈ l, x.n < 18446744073709551616 := fun x hx => by
    obtain ⟨j, hj⟩ := List.mem_iff_getElem?.1 hx
    obtain ⟨_, _, cs, _, a⟩ := hl
    obtain ⟨rv, b⟩ := a j x hj
    exact b.n
  have hEl := encL_len l hxs
  have r1 : readsF l (encL l) = (true, 0) := by
    have := reads_full l [] hxs
    rwa [List.append_nil] at this
  have r2 : readsF l (encL l ++ [UInt8.ofNat 0]) = (true, 72) := reads_full l [UInt8.ofNat 0] hxs
  have r3 : ∀ t, t < (encL l).length → readsF l ((encL l).take t) = (true, 70) := fun t => reads_cut l t hxs
  generalize encL l = es at *
  have hbn := ht.keep.next
  have hbl : bx < h.next := by omega
  have hee : (es == es) = true := by simp
  obtain ⟨_, c1, h1, rfl, k1⟩ := reads_con d lv es l bx B h ht.od.bs (by omega) hg hbl hl (by omega) n (by omega)
  have c1 : aCall E0 sp0 100000 n 19 [d, .ptr bx 0] h = some (.ret (.tup [.bool true, .int .i64 0]) h1) := by rw [r1] at c1; exact c1
  have t1 := ht.same k1
  have q1 := Keep.push h1 (.cells [] 5 .own)
  obtain ⟨v2, h2, c2, ho2, hg2⟩ := append_own byte24 seq24 (own_none (h := h1)) (t1.same q1).od.bs.news (by simp; omega)
  rw [List.nil_append] at ho2
  have g2 : Grew h1 h2 .nils v2 := hg2.fresh0 rfl
  have t2 := t1.same g2.keep
  obtain ⟨v3, h3, c3, ho3, hg3⟩ := append_byte (b := 0) ho2 (by omega) (by omega)
  have c3 : eBuiltin E0 (h2.push (.cells [.int .u8 0] 5 .own)) .append [v2, .sl h2.next 0 1 1 false] [24, 24] = some (v3, h3) := c3
  have f2n : ∀ j ∈ ids v2, h1.next ≤ j := fun j hj => by
    rcases g2.fresh j hj with a | a
    · simp [ids] at a
    · exact a
  have kk3 : Keep h h3 [] := (k1.trans g2.keep).mono (by simp [ids]) |>.fresh hg3.keep (fun j hj => Nat.le_trans k1.next (f2n j hj))
  have hg3' : h3.get bx = .cells [lv] 22 .own := by rw [kk3.get _ hbl (by simp)]; exact hg
  obtain ⟨_, c4, h4, rfl, k4⟩ := reads_con v3 lv (es ++ [UInt8.ofNat 0]) l bx B h3 ho3.bs (by simp; omega) hg3' (Nat.lt_of_lt_of_le hbl kk3.next) (hl.keep kk3 (by simp)) (by omega) n (by omega)
  have c4 : aCall E0 sp0 100000 n 19 [v3, .ptr bx 0] h3 = some (.ret (.tup [.bool true, .int .i64 72]) h4) := by rw [r2] at c4; exact c4
  have kk4 : Keep h h4 [] := (kk3.trans k4).mono (by simp)
  have hg4 : h4.get bx = .cells [lv] 22 .own := by rw [kk4.get _ hbl (by simp)]; exact hg
  have t4 := ht.same kk4
  have hlen4 : qBuiltin E0 h4 .len [d] [24] = some (.int .i64 (es.length : Nat)) := len_bytes byte24 t4.od.bs
  have hQ' : ∀ fr' h', fr' 2 = .ptr bx 0 → Keep h h' [] → wCode E0 (aCall E0 sp0 100000 n) 100000 lc3_50 fr' h' Q := fun fr' h' a k => hQ fr' h' ⟨a, Nat.lt_of_lt_of_le hbl k.next, ⟨lv, by rw [k.get _ hbl (by simp)]; exact hg, hl.keep k (by simp)⟩, (hk.trans k).mono (by simp)⟩
  by_cases hz : es.length = 0
  · have d1 : decide ((0 : Int) < (es.length : Int)) = false := decide_eq_false (by omega)
    simp only [w_lc3_35, f1, f2, f5, f6, conv_bytes byte24 str9 ht.ob.bs, conv_bytes byte24 str9 ht.od.bs, hee, c1, build_none, c2, build_byte, c3, c4, hlen4, d1, go_sem, reduceIte, Nat.reduceEqDiff, Nat.reduceAdd, Nat.reduceMul, Nat.reduceSub, Int.reduceLE, Int.reduceLT, Int.reduceNe, Int.reduceToNat, Int.reducePow, Int.reduceAdd, Int.reduceMul, reduceCtorEq, true_and, and_true, cond_true, cond_false, List.map_cons, List.map_nil, Option.map_some, Option.map_none, List.getElem?_cons_zero, List.getElem?_cons_succ, ne_eq, not_false_eq_true, List.nil_append, List.append_nil, List.cons_append, List.contains_cons, List.contains_nil, Nat.reduceBEq, Bool.or_false, Bool.false_or, Bool.true_or, Bool.or_true]
    refine hQ' _ _ ?_ kk4
    simp only [go_sem, reduceIte, Nat.reduceEqDiff, Nat.reduceAdd, Nat.reduceMul, Nat.reduceSub, Int.reduceLE, Int.reduceLT, Int.reduceNe, Int.reduceToNat, Int.reducePow, Int.reduceAdd, Int.reduceMul, reduceCtorEq, true_and, and_true, cond_true, cond_false, List.map_cons, List.map_nil, Option.map_some, Option.map_none, List.getElem?_cons_zero, List.getElem?_cons_succ, ne_eq, not_false_eq_true, List.nil_append, List.append_nil, List.cons_append, List.contains_cons, List.contains_nil, Nat.reduceBEq, Bool.or_false, Bool.false_or, Bool.true_or, Bool.or_true, f2]
  · have d1 : decide ((0 : Int) < (es.length : Int)) = true := decide_eq_true (by omega)
    have hrem : ∀ t : TypeId, aBin E0 .rem t (.int .i64 (cut : Nat)) (.int .i64 (es.length : Nat)) = some (.int .i64 ((cut % es.length : Nat) : Int)) := fun t => by
      rw [bin_rem (by omega), tmod_nat]
    have hm : cut % es.length < es.length := Nat.mod_lt _ (by omega)
    obtain ⟨v5, c5, hb5, _⟩ := slice_first t4.od.bs (k := cut % es.length) (by omega)
    obtain ⟨_, c6, h6, rfl, k6⟩ := reads_con v5 lv (es.take (cut % es.length)) l bx B h4 hb5 (by simp; omega) hg4 (Nat.lt_of_lt_of_le hbl kk4.next) (hl.keep kk4 (by simp)) (by omega) n (by omega)
    have c6 : aCall E0 sp0 100000 n 19 [v5, .ptr bx 0] h4 = some (.ret (.tup [.bool true, .int .i64 70]) h6) := by rw [r3 _ hm] at c6; exact c6
    have hw : IntKind.i64.wrap (cut : Int) = (cut : Int) := w_i64_in cut (by omega)
    simp only [w_lc3_35, f1, f2, f5, f6, conv_bytes byte24 str9 ht.ob.bs, conv_bytes byte24 str9 ht.od.bs, hee, c1, build_none, c2, build_byte, c3, c4, hlen4, d1, hw, hrem, c5, c6, go_sem, reduceIte, Nat.reduceEqDiff, Nat.reduceAdd, Nat.reduceMul, Nat.reduceSub, Int.reduceLE, Int.reduceLT, Int.reduceNe, Int.reduceToNat, Int.reducePow, Int.reduceAdd, Int.reduceMul, reduceCtorEq, true_and, and_true, cond_true, cond_false, List.map_cons, List.map_nil, Option.map_some, Option.map_none, List.getElem?_cons_zero, List.getElem?_cons_succ, ne_eq, not_false_eq_true, List.nil_append, List.append_nil, List.cons_append, List.contains_cons, List.contains_nil, Nat.reduceBEq, Bool.or_false, Bool.false_or, Bool.true_or, Bool.or_true]
    refine hQ' _ _ ?_ ((kk4.trans k6).mono (by simp))
    simp only [go_sem, reduceIte, Nat.reduceEqDiff, Nat.reduceAdd, Nat.reduceMul, Nat.reduceSub, Int.reduceLE, Int.reduceLT, Int.reduceNe, Int.reduceToNat, Int.reducePow, Int.reduceAdd, Int.reduceMul, reduceCtorEq, true_and, and_true, cond_true, cond_false, List.map_cons, List.map_nil, Option.map_some, Option.map_none, List.getElem?_cons_zero, List.getElem?_cons_succ, ne_eq, not_false_eq_true, List.nil_append, List.append_nil, List.cons_append, List.contains_cons, List.contains_nil, Nat.reduceBEq, Bool.or_false, Bool.false_or, Bool.true_or, Bool.or_true, f2]
end Go.Proofs.Yteblojfcalgoeaa

/- Seat 1: TopCoded: the forms that are told; the whole. Conditions: none. -/
namespace Go.Proofs.Yteblojfcalgoeaa
open Go Go.RowKit
set_option maxRecDepth 100000
set_option linter.unusedSimpArgs false
set_option linter.unusedVariables false

theorem or128_toNat (c : UInt8) : (c ||| 128).toNat = c.toNat % 128 + 128 := by
  have key : ∀ n : Nat, n < 256 → (UInt8.ofNat n ||| 128).toNat = n % 128 + 128 := by decide +kernel
  have := key c.toNat c.toNat_lt
  simpa using this
theorem u8s_set (a : List UInt8) (c : UInt8) : (u8s (a ++ [c])).set a.length (.int .u8 ((c.toNat % 128 + 128 : Nat) : Int)) = u8s (a ++ [c ||| 128]) := by
  have h := or128_toNat c
  rw [u8s_append, u8s_append, List.set_append_right _ _ (by simp [u8s])]
  simp [u8s, h]
theorem split_last {α : Type} : ∀ (l : List α), 0 < l.length → ∃ a c, l = a ++ [c]
  | l, h => ⟨l.dropLast, l.getLast (List.ne_nil_of_length_pos h), (List.dropLast_concat_getLast _).symm⟩
theorem zig_pos {x : Int} (h0 : ¬ x < 0) (h : x < 128) : IntKind.u64.wrap (2 * IntKind.u64.wrap x) = ((zigN x : Nat) : Int) := by
  unfold zigN
  rw [if_neg h0, IntKind.wrap_u64, IntKind.wrap_u64]; omega
theorem zig_neg {x : Int} (h0 : x < 0) (h : -128 ≤ x) : IntKind.u64.wrap (IntKind.i64.wrap (IntKind.i64.wrap (-2 * IntKind.i64.wrap x) - 1)) = ((zigN x : Nat) : Int) := by
  unfold zigN
  rw [if_pos h0, wrap_i64 (n := x) (by omega), wrap_i64 (n := -2 * x) (by omega), wrap_i64 (by omega), IntKind.wrap_u64]; omega
theorem zigN_small {x : Int} (h : -128 ≤ x ∧ x < 128) : zigN x < 256 := by
  unfold zigN; split <;> omega

set_option maxHeartbeats 4000000 in
theorem topC {B bx : Nat} {h0 : AH} {l : List It} {fr : Nat → AV} {h : AH} (hp : PB B bx h0 l fr h) (hl20 : l.length ≤ 20) (n : Nat) (hn : 20 ≤ n) :
    wCode E0 (aCall E0 sp0 100000 n) 100000 lc3_50 fr h (BodyQ E0 Try.f3 fun o => ∃ h', o = .ret (.bool true) h' ∧ Keep h0 h' []) := by
  obtain ⟨f2, hbl, ⟨lv, hg, hl⟩, hk⟩ := hp
  have hlen : ∀ h' : AH, Keep h h' [] → qBuiltin E0 h' .len [lv] [22] = some (.int .i64 (l.length : Nat)) := fun h' k => by
    obtain ⟨_, _, cs, a, _⟩ := hl.keep k (by simp)
    exact len_gen sl22 a
  simp only [w_lc3_50, go_sem, reduceIte, Nat.reduceEqDiff, Nat.reduceAdd, Nat.reduceMul, Nat.reduceSub, Int.reduceLE, Int.reduceLT, Int.reduceNe, Int.reduceToNat, Int.reducePow, Int.reduceAdd, Int.reduceMul, reduceCtorEq, true_and, and_true, cond_true, cond_false, List.map_cons, List.map_nil, Option.map_some, Option.map_none, List.getElem?_cons_zero, List.getElem?_cons_succ, ne_eq, not_false_eq_true, List.nil_append, List.append_nil, List.cons_append, List.contains_cons, List.contains_nil, Nat.reduceBEq, Bool.or_false, Bool.false_or, Bool.true_or, Bool.or_true, f2, hg, hlen h (Keep.refl h)]
  refine wLoop_inv (fun k fr h1 => ∃ i, k = l.length - i ∧ i ≤ l.length ∧ fr 218 = lv ∧ fr 219 = .int .i64 (l.length : Nat) ∧ fr 220 = .int .i64 (i : Nat) ∧ Keep h h1 []) ?_ 100000 l.length _ _ (by omega)
    ⟨0, rfl, by omega, by simp only [go_sem, reduceIte, Nat.reduceEqDiff, Nat.reduceAdd, Nat.reduceMul, Nat.reduceSub, Int.reduceLE, Int.reduceLT, Int.reduceNe, Int.reduceToNat, Int.reducePow, Int.reduceAdd, Int.reduceMul, reduceCtorEq, true_and, and_true, cond_true, cond_false, List.map_cons, List.map_nil, Option.map_some, Option.map_none, List.getElem?_cons_zero, List.getElem?_cons_succ, ne_eq, not_false_eq_true, List.nil_append, List.append_nil, List.cons_append, List.contains_cons, List.contains_nil, Nat.reduceBEq, Bool.or_false, Bool.false_or, Bool.true_or, Bool.or_true], by simp only [go_sem, reduceIte, Nat.reduceEqDiff, Nat.reduceAdd, Nat.reduceMul, Nat.reduceSub, Int.reduceLE, Int.reduceLT, Int.reduceNe, Int.reduceToNat, Int.reducePow, Int.reduceAdd, Int.reduceMul, reduceCtorEq, true_and, and_true, cond_true, cond_false, List.map_cons, List.map_nil, Option.map_some, Option.map_none, List.getElem?_cons_zero, List.getElem?_cons_succ, ne_eq, not_false_eq_true, List.nil_append, List.append_nil, List.cons_append, List.contains_cons, List.contains_nil, Nat.reduceBEq, Bool.or_false, Bool.false_or, Bool.true_or, Bool.or_true], by simp only [go_sem, reduceIte, Nat.reduceEqDiff, Nat.reduceAdd, Nat.reduceMul, Nat.reduceSub, Int.reduceLE, Int.reduceLT, Int.reduceNe, Int.reduceToNat, Int.reducePow, Int.reduceAdd, Int.reduceMul, reduceCtorEq, true_and, and_true, cond_true, cond_false, List.map_cons, List.map_nil, Option.map_some, Option.map_none, List.getElem?_cons_zero, List.getElem?_cons_succ, ne_eq, not_false_eq_true, List.nil_append, List.append_nil, List.cons_append, List.contains_cons, List.contains_nil, Nat.reduceBEq, Bool.or_false, Bool.false_or, Bool.true_or, Bool.or_true]; rfl, Keep.refl h⟩
  rintro k fr h1 ⟨i, rfl, hi, hf218, hf219, hf220, hk1⟩
  simp only [go_sem, reduceIte, Nat.reduceEqDiff, Nat.reduceAdd, Nat.reduceMul, Nat.reduceSub, Int.reduceLE, Int.reduceLT, Int.reduceNe, Int.reduceToNat, Int.reducePow, Int.reduceAdd, Int.reduceMul, reduceCtorEq, true_and, and_true, cond_true, cond_false, List.map_cons, List.map_nil, Option.map_some, Option.map_none, List.getElem?_cons_zero, List.getElem?_cons_succ, ne_eq, not_false_eq_true, List.nil_append, List.append_nil, List.cons_append, List.contains_cons, List.contains_nil, Nat.reduceBEq, Bool.or_false, Bool.false_or, Bool.true_or, Bool.or_true, hf218, hf219, hf220]
  refine condK_intro (fun hc => ?_) (fun hc => ?_)
  case refine_2 =>
    obtain ⟨n, rfl⟩ : ∃ k, n = k + 1 := ⟨n - 1, by omega⟩
    simp only [go_sem, reduceIte, Nat.reduceEqDiff, Nat.reduceAdd, Nat.reduceMul, Nat.reduceSub, Int.reduceLE, Int.reduceLT, Int.reduceNe, Int.reduceToNat, Int.reducePow, Int.reduceAdd, Int.reduceMul, reduceCtorEq, true_and, and_true, cond_true, cond_false, List.map_cons, List.map_nil, Option.map_some, Option.map_none, List.getElem?_cons_zero, List.getElem?_cons_succ, ne_eq, not_false_eq_true, List.nil_append, List.append_nil, List.cons_append, List.contains_cons, List.contains_nil, Nat.reduceBEq, Bool.or_false, Bool.false_or, Bool.true_or, Bool.or_true, alive_a]
    exact ⟨_, rfl, (hk.trans hk1).mono (by simp)⟩
  case refine_1 =>
  have hc : i < l.length := by have := of_decide_eq_true hc; omega
  have hxi : l[i]? = some l[i] := List.getElem?_eq_getElem hc
  generalize l[i] = x at hxi
  obtain ⟨p, rv, e4, e5, hrv, hrva, hrvi, hkd, hxn⟩ := (hl.keep hk1 (by simp)).load hxi
  have hst : ∀ a b c : AV, storeO E0 27 0 (.agg [.int .u8 (x.kind : Nat), .int .u64 (x.n : Nat), rv]) (.cells [a, b, c] 27 .own) = some (.cells [.int .u8 (x.kind : Nat), .int .u64 (x.n : Nat), rv] 27 .own) := fun a b c => store27 rfl rfl hrva
  obtain ⟨H, hH⟩ : ∃ H, H = (h1.push (.cells [.int .u8 0, .int .u64 0, .nils] 27 .own)).set h1.next (.cells [.int .u8 (x.kind : Nat), .int .u64 (x.n : Nat), rv] 27 .own) := ⟨_, rfl⟩
  have hpush : (h1.push (.cells [.int .u8 0, .int .u64 0, .nils] 27 .own)).get h1.next = .cells [.int .u8 0, .int .u64 0, .nils] 27 .own := get_push_new rfl
  have hHk : Keep h1 H [] := by rw [hH]; exact keep_set (Keep.push h1 _) (Nat.le_refl _)
  have hHn : H.next = h1.next + 1 := by rw [hH]; rfl
  have hHg : H.get h1.next = .cells [.int .u8 (x.kind : Nat), .int .u64 (x.n : Nat), rv] 27 .own := by rw [hH]; exact get_set_same
  -- one group more than it needs
  obtain ⟨_, p1, v2, h2, rfl, ho2, hg2⟩ := short30_con x.n hxn H n (by omega)
  have hL := shortB_len10 hxn
  have hLp := shortB_pos x.n
  obtain ⟨a, c, hac⟩ := split_last _ hLp
  have hLa : (shortB x.n).length - 1 = a.length := by rw [hac]; simp
  have k2 : Keep H h2 [] := hg2.keep
  have v2f : ∀ j ∈ ids v2, H.next ≤ j := fun j hj => by
    rcases hg2.fresh j hj with b | b
    · simp [ids] at b
    · exact b
  have hlen2 : ∀ h' : AH, qBuiltin E0 h' .len [v2] [24] = some (.int .i64 ((shortB x.n).length : Nat)) := fun h' => by
    rcases ho2.cases_len with ⟨rfl, e⟩ | ⟨i, c, b, rfl⟩
    · rw [e] at hLp; simp at hLp
    · exact len_sl slice24
  have hw1 : IntKind.i64.wrap (((shortB x.n).length : Nat) - 1 : Int) = ((a.length : Nat) : Int) := by rw [wrap_i64 (by omega)]; omega
  obtain ⟨p2, h3, i1, i2, i3, ho3, k3⟩ := OwnA.put (E := E0) (t := 24) (e := 5) (by_ := 1) (by kernel_rfl) ho2.gen (k := .i64) (j := a.length) (by omega) (x := .int .u8 ((c.toNat % 128 + 128 : Nat) : Int)) rfl
  have i2 : aLoad E0 h2 5 p2 = some (.int .u8 (c.toNat : Nat)) := by
    rw [i2 (by kernel_rfl), hac, u8s_append, List.getElem?_append_right (by simp [u8s])]
    simp [u8s]
  have ho3 : Own 5 h3 v2 (a ++ [c ||| 128]) := by
    have e1 : (u8s (shortB x.n)).set a.length (.int .u8 ((c.toNat % 128 + 128 : Nat) : Int)) = u8s (a ++ [c ||| 128]) := by rw [hac, u8s_set]
    rw [e1] at ho3
    exact ho3.bytes
  have hlb : (a ++ [c ||| 128]).length = (shortB x.n).length := by rw [hac]; simp
  obtain ⟨v4, h4, p4, ho4, hg4⟩ := append_byte (b := 0) ho3 (by omega) (by omega)
  have p4 : eBuiltin E0 (h3.push (.cells [.int .u8 0] 5 .own)) .append [v2, .sl h3.next 0 1 1 false] [24, 24] = some (v4, h4) := p4
  have hlong : a ++ [c ||| 128] ++ [UInt8.ofNat 0] = longB x.n := by rw [longB_of x.n a c hac]; simp
  have hlongl : (longB x.n).length = (shortB x.n).length + 1 := by rw [← hlong, List.length_append, hlb]; rfl
  rw [hlong] at ho4
  obtain ⟨_, p5, ri, h5, bv, rfl, hr5, k5, hri, hbv⟩ := open_con v4 (longB x.n) h4 ho4.bs (by omega) n (by omega)
  obtain ⟨out, p6, ho6⟩ := uvarint_con hr5 (by omega) n (by omega)
  rw [List.drop_zero, numF_long x.n 0 0 (by omega) (by simpa using hxn)] at ho6
  obtain ⟨h6, rfl, hr6, k6⟩ := ho6
  obtain ⟨_, p7, rfl⟩ := fault_con hr6 n (by omega)
  have p7 : aCall E0 sp0 100000 n 29 [.ptr ri 0] h6 = some (.ret (.int .i64 71) h6) := p7
  obtain ⟨_, p8, rfl⟩ := left_con hr6 (by omega) n (by omega)
  rw [Nat.sub_zero, hlongl] at p8
  obtain ⟨_, p9, h7, rfl, k7⟩ := bytes_faulted hr6 (by decide) 0 n (by omega)
  have hln : qBuiltin E0 h7 .len [.nils] [24] = some (.int .i64 0) := len_nils slice24
  have d0 : decide ((0 : Int) < 0) = false := rfl
  have g3 : ∀ j ∈ ids v2, h1.next ≤ j := fun j hj => by have := v2f j hj; omega
  have k13 : Keep h1 h3 [] := ((hHk.trans k2).mono (by simp)).fresh k3 g3
  have k14 : Keep h1 h4 [] := k13.fresh hg4.keep g3
  have k15 : Keep h1 h5 [] := (k14.trans k5).mono (by simp)
  have k16 : Keep h1 h6 [] := k15.fresh k6 (fun j hj => by simp at hj; subst hj; have := k14.next; omega)
  have kH3 : Keep H h3 [] := k2.fresh k3 v2f
  have kH4 : Keep H h4 [] := kH3.fresh hg4.keep v2f
  have kH5 : Keep H h5 [] := (kH4.trans k5).mono (by simp)
  have kH6 : Keep H h6 [] := kH5.fresh k6 (fun j hj => by simp at hj; subst hj; have := kH4.next; omega)
  have kH7 : Keep H h7 [] := (kH6.trans k7).mono (by simp)
  have hc7 : h7.get h1.next = .cells [.int .u8 (x.kind : Nat), .int .u64 (x.n : Nat), rv] 27 .own := by rw [kH7.get _ (by omega) (by simp)]; exact hHg
  have k17 : Keep h h7 [] := ((hk1.trans hHk).trans kH7).mono (by simp)
  -- what is folded
  have hsm := w_i8_rng (x.n : Nat)
  generalize hs : IntKind.i8.wrap (x.n : Nat) = sm at hsm
  have hz8 := zigN_small hsm
  obtain ⟨_, q1, rfl⟩ := zag8_in (zigN sm) (by omega) (by rw [zagI_zigN]; exact hsm) h7 n (by omega)
  rw [zagI_zigN] at q1
  have hout : ¬ (-128 ≤ zagI (256 + x.n % 1000) ∧ zagI (256 + x.n % 1000) < 128) := by unfold zagI; split <;> omega
  obtain ⟨_, q2, rfl⟩ := zag8_out (256 + x.n % 1000) (by omega) hout h7 n (by omega)
  obtain ⟨_, q3, rfl⟩ := zag64_con x.n hxn h7 n (by omega)
  obtain ⟨_, q4, rfl⟩ := zig8_con sm hsm.1 hsm.2 h7 n (by omega)
  have hzr := zagI_lt hxn
  obtain ⟨_, q5, rfl⟩ := zig64_con (zagI x.n) hzr.1 hzr.2 h7 n (by omega)
  rw [zigN_zagI] at q5
  have hrem : ∀ t : TypeId, aBin E0 .rem t (.int .u64 (x.n : Nat)) (.int .u64 1000) = some (.int .u64 ((x.n % 1000 : Nat) : Int)) := fun t => by
    rw [bin_rem (by decide)]; exact congrArg _ (congrArg _ (tmod_nat x.n 1000))
  have hw2 : IntKind.u64.wrap (256 + ((x.n % 1000 : Nat) : Int)) = ((256 + x.n % 1000 : Nat) : Int) := by
    rw [← w_u64_in (256 + x.n % 1000) (by omega)]; norm_cast
  have hor := or128 c.toNat c.toNat_lt
  have fin : ∃ k', k' < l.length - i ∧ ∃ i', k' = l.length - i' ∧ i' ≤ l.length ∧ i + 1 = i' := ⟨_, by omega, i + 1, rfl, by omega, rfl⟩
  by_cases hneg : sm < 0
  · have d1 : decide (sm < 0) = true := decide_eq_true hneg
    have z := zig_neg hneg hsm.1
    simp only [go_sem, reduceIte, Nat.reduceEqDiff, Nat.reduceAdd, Nat.reduceMul, Nat.reduceSub, Int.reduceLE, Int.reduceLT, Int.reduceNe, Int.reduceToNat, Int.reducePow, Int.reduceAdd, Int.reduceMul, reduceCtorEq, true_and, and_true, cond_true, cond_false, List.map_cons, List.map_nil, Option.map_some, Option.map_none, List.getElem?_cons_zero, List.getElem?_cons_succ, ne_eq, not_false_eq_true, List.nil_append, List.append_nil, List.cons_append, List.contains_cons, List.contains_nil, Nat.reduceBEq, Bool.or_false, Bool.false_or, Bool.true_or, Bool.or_true, hf218, hf219, hf220, e4, e5, hpush, hst, ← hH, hHg, p1, hlen2, hw1, i1, i2, hor, i3, build_byte, p4, p5, p6, p7, p8, w_inc (show (shortB x.n).length ≤ 1000000000 by omega), p9, hln, decide_false, hc7, hs, d1, z, q1, q2, q3, q4, q5, hrem, hw2, pow_1, fdiv2, w_i64_in (x.n / 2) (by omega), and1 x.n hxn, w_i64_in (x.n % 2) (by omega), neg1, zag_eq x.n hxn, w_inc (show i ≤ 1000000000 by omega)]
    exact ⟨l.length - (i + 1), by omega, i + 1, rfl, by omega, rfl, k17⟩
  · have d1 : decide (sm < 0) = false := decide_eq_false hneg
    have z := zig_pos hneg hsm.2
    simp only [go_sem, reduceIte, Nat.reduceEqDiff, Nat.reduceAdd, Nat.reduceMul, Nat.reduceSub, Int.reduceLE, Int.reduceLT, Int.reduceNe, Int.reduceToNat, Int.reducePow, Int.reduceAdd, Int.reduceMul, reduceCtorEq, true_and, and_true, cond_true, cond_false, List.map_cons, List.map_nil, Option.map_some, Option.map_none, List.getElem?_cons_zero, List.getElem?_cons_succ, ne_eq, not_false_eq_true, List.nil_append, List.append_nil, List.cons_append, List.contains_cons, List.contains_nil, Nat.reduceBEq, Bool.or_false, Bool.false_or, Bool.true_or, Bool.or_true, hf218, hf219, hf220, e4, e5, hpush, hst, ← hH, hHg, p1, hlen2, hw1, i1, i2, hor, i3, build_byte, p4, p5, p6, p7, p8, w_inc (show (shortB x.n).length ≤ 1000000000 by omega), p9, hln, decide_false, hc7, hs, d1, z, q1, q2, q3, q4, q5, hrem, hw2, pow_1, fdiv2, w_i64_in (x.n / 2) (by omega), and1 x.n hxn, w_i64_in (x.n % 2) (by omega), neg1, zag_eq x.n hxn, w_inc (show i ≤ 1000000000 by omega)]
    exact ⟨l.length - (i + 1), by omega, i + 1, rfl, by omega, rfl, k17⟩

theorem topCoded_con (lv : AV) (cut : Nat) (l : List It) (B : Nat) (h : AH) (hl : ItS B h lv l) (hva : lv.atom = true) (hcut : cut < 65536) :
    Con E0 sp0 100000 21 3 [lv, .int .u16 (cut : Nat)] h fun o => ∃ h', o = .ret (.bool true) h' ∧ Keep h h' [] := by
  refine Con.of_body rfl fn3 fun n hn => body3 ?_
  have hl20 : (l.take 20).length ≤ 20 := List.length_take_le 20 l
  exact topA lv cut l B h hl hva n (by omega) _ fun fr h' ha => topB ha hcut hl20 n hn _ fun fr' h'' hb => topC hb hl20 n hn
end Go.Proofs.Yteblojfcalgoeaa
