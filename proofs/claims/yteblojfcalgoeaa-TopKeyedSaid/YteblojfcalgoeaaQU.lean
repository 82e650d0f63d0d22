/- Parts of the abstract machine and of its laws, joined. Conditions: none. -/
import Derived.Test.YteblojfcalgoeaaQS
import Derived.Test.YteblojfcalgoeaaQF
import Derived.Test.YteblojfcalgoeaaQL
import Derived.Maps.RangeRun
import Derived.KernelRfl
import Derived.Test.YteblojfcalgoeaaQD
set_option linter.unusedVariables false
set_option linter.unusedSimpArgs false
/- Seat 1: naming.Under, as a function of its own: its first pieces by the machine, the collecting and the sort by hand. Conditions: none. -/
set_option linter.unusedVariables false
set_option linter.unusedSimpArgs false
namespace Go.Proofs.Yteblojfcalgoeaa
open Go Go.RowKit
set_option maxRecDepth 100000

def regArr : Code → Array Oper
  | .region _ ops _ => ops
  | _ => #[]
def blockIn : Code → Code
  | .block _ b => b
  | c => c
def loopIn : Code → Code
  | .loop b => b
  | c => c
noncomputable def body61 : Code := bodyOf Try.f61
noncomputable def pre61 : List Code := [seqL body61, seqL (seqR body61), seqL (seqR (seqR body61)), seqL (seqR (seqR (seqR body61)))]
noncomputable def t61 : Code := dropN 4 body61
noncomputable def U10 : Array Oper := regArr (seqL (seqL t61))
noncomputable def L61 : Code := loopIn (blockIn (seqR (seqL t61)))
noncomputable def U11 : Array Oper := regArr (seqL L61)
noncomputable def U12 : Array Oper := regArr (seqL (blockIn (seqR (seqR L61))))
noncomputable def U13 : Array Oper := regArr (seqR (blockIn (seqR (seqR L61))))
noncomputable def U14 : Array Oper := regArr (seqL (seqR t61))
noncomputable def U15 : Array Oper := regArr (seqL (seqR (seqR t61)))
theorem body61_eq : body61 = seqAll pre61 (.seq (.seq (.region 10 U10 false) (.block 2 (.loop (.seq (.region 11 U11 false) (.seq (.cond (.tmp 40) .skip (.exit 2)) (.block 3 (.seq (.region 12 U12 false) (.region 13 U13 false)))))))) (.seq (.region 14 U14 false) (.seq (.region 15 U15 false) .ret))) := by kernel_rfl
theorem u10 : ∃ o p, U10[0]? = some o ∧ o.guard = none ∧ o.dst = some 37 ∧ o.op = .move (.tmp 5) ∧ U10[1]? = some p ∧ p.guard = none ∧ p.dst = some 38 ∧ p.op = .range 170 (.tmp 37) ∧ U10.size = 2 :=
  ⟨operAt U10.toList 0, operAt U10.toList 1, by kernel_rfl, by kernel_rfl, by kernel_rfl, by kernel_rfl, by kernel_rfl, by kernel_rfl, by kernel_rfl, by kernel_rfl, by kernel_rfl⟩
theorem u11 : ∃ o p, U11[0]? = some o ∧ o.guard = none ∧ o.dst = some 39 ∧ o.op = .next (.tmp 38) false ∧ U11[1]? = some p ∧ p.guard = none ∧ p.dst = some 40 ∧ p.op = .extract (.tmp 39) 0 ∧ U11.size = 2 :=
  ⟨operAt U11.toList 0, operAt U11.toList 1, by kernel_rfl, by kernel_rfl, by kernel_rfl, by kernel_rfl, by kernel_rfl, by kernel_rfl, by kernel_rfl, by kernel_rfl, by kernel_rfl⟩
theorem u12 : ∃ o p q, U12[0]? = some o ∧ o.guard = none ∧ o.dst = some 41 ∧ o.op = .entry (.tmp 38) ∧ U12[1]? = some p ∧ p.guard = none ∧ p.dst = some 42 ∧ p.op = .extract (.tmp 41) 0 ∧ U12[2]? = some q ∧ q.guard = none ∧ q.dst = some 11 ∧ q.op = .assign (.tmp 42) ∧ U12.size = 3 :=
  ⟨operAt U12.toList 0, operAt U12.toList 1, operAt U12.toList 2, by kernel_rfl, by kernel_rfl, by kernel_rfl, by kernel_rfl, by kernel_rfl, by kernel_rfl, by kernel_rfl, by kernel_rfl, by kernel_rfl, by kernel_rfl, by kernel_rfl, by kernel_rfl, by kernel_rfl⟩
theorem u13 : slim E0 50 (.region 13 U13 false) = .ops [⟨some 43, .move (.tmp 10), none, true, 0, false, []⟩, ⟨some 44, .move (.tmp 11), none, true, 0, false, []⟩, ⟨some 45, .buildSlice 48 1 ⟨[(0, .tmp 44)]⟩, none, false, 0, false, []⟩, ⟨some 46, .call ⟨.builtin .append, ⟨[.tmp 43, .tmp 45]⟩, ⟨[48, 48]⟩⟩, none, false, 0, false, []⟩, ⟨some 10, .assign (.tmp 46), none, true, 0, false, []⟩] := by kernel_rfl
theorem u14 : ∃ o p, U14[0]? = some o ∧ o.guard = none ∧ o.dst = some 47 ∧ o.op = .move (.tmp 10) ∧ U14[1]? = some p ∧ p.guard = none ∧ p.dst = some 48 ∧ p.op = .call ⟨.value (.func 103), #[.tmp 47], #[48]⟩ ∧ U14.size = 2 :=
  ⟨operAt U14.toList 0, operAt U14.toList 1, by kernel_rfl, by kernel_rfl, by kernel_rfl, by kernel_rfl, by kernel_rfl, by kernel_rfl, by kernel_rfl, by kernel_rfl, by kernel_rfl⟩
theorem u15 : ∃ o p, U15[0]? = some o ∧ o.guard = none ∧ o.dst = some 49 ∧ o.op = .move (.tmp 10) ∧ U15[1]? = some p ∧ p.guard = none ∧ p.dst = some 4 ∧ p.op = .assign (.tmp 49) ∧ U15.size = 2 :=
  ⟨operAt U15.toList 0, operAt U15.toList 1, by kernel_rfl, by kernel_rfl, by kernel_rfl, by kernel_rfl, by kernel_rfl, by kernel_rfl, by kernel_rfl, by kernel_rfl, by kernel_rfl⟩

def sortB (l : List (List UInt8)) : List (List UInt8) := l.mergeSort fun x y => decide (x ≤ y)
def textsA (ts : List (List UInt8)) : List AV := ts.map .str

def underTail (fr : Nat → AV) (h1 : AH) : Option Out :=
  match fr 5, fr 10 with
  | .map mi, .sl j 0 0 n false => match h1.get mi, h1.get j with
    | .map es, .cells cs 9 .own => bif Nat.beq es.length n && (Nat.beq cs.length n && (Nat.ble n 1000000 && (!(Nat.beq mi j) && (Nat.blt mi h1.next && Nat.blt j h1.next))))
        then some (.ret (.sl j 0 n n false) (((h1.set mi .dead).set j (.cells (textsA (sortB (es.map (·.1)))) 9 .own)).grow (n + 1))) else none
    | _, _ => none
  | _, _ => none
noncomputable def underSp : Spec := fun K args h =>
  match args with
  | [x, y] => match aCode E0 K 100000 50 (seqAll pre61 .skip) (frame0 [x, y]) h with
    | some (.go 0 fr h1) => underTail fr h1
    | _ => none
  | _ => none
end Go.Proofs.Yteblojfcalgoeaa

/- Seat 1: sort.Strings on the abstract machine's heap. Conditions: none. -/
set_option linter.unusedVariables false
set_option linter.unusedSimpArgs false
namespace Go.Proofs.Yteblojfcalgoeaa
open Go Go.RowKit Go.Sort
set_option maxRecDepth 100000

theorem sortB_len (l : List (List UInt8)) : (sortB l).length = l.length := by simp [sortB]
theorem textsA_len (l : List (List UInt8)) : (textsA l).length = l.length := by simp [textsA]

theorem below_grow (w : World) (os : Array Obj) : RowKit.Below w.heap.size w (Go.Sort.grow w os) :=
  ⟨rfl, rfl, rfl, by simp [grow], fun i hi => by simp only [grow]; rw [Array.getElem?_append_left hi]⟩
theorem below_ahead (w : World) (n : Nat) : RowKit.Below w.heap.size w (Sort.ahead w n) := ⟨rfl, rfl, rfl, Nat.le_refl _, fun i hi => rfl⟩

theorem sort_calls {B : Nat} {W0 : World} {τ : Sig} {h : AH} {w : World} (r : R E0.size B W0 τ h w) {j : Nat} (hj : j < h.next) {ss : List (List UInt8)} (hg : h.get j = .cells (textsA ss) 9 .own) (hl : ss.length ≤ 1000000) (hoff : (τ.at_ j).off = 0) :
    Calls Try.prog 103 #[.slice (some (τ.addr j 0)) ss.length ss.length] w fun e w' => e = .returned (.tuple #[]) ∧ R E0.size B W0 τ (h.set j (.cells (textsA (sortB ss)) 9 .own)) w' := by
  have ho := r.obj j hj
  rw [hg] at ho
  obtain ⟨c, e, fz, hb, hc, hm⟩ := ho.row
  obtain ⟨hB, _, hfz, hsz, _⟩ := hm (by decide)
  have hcs : c.size = ss.length := by rw [hsz rfl, textsA_len]
  have hblk : (τ.at_ j).block < w.heap.size := block_lt hb
  have hcell : ∀ k (hk : k < ss.length), c[k]? = some (encStr ss[k]) := fun k hk => by
    obtain ⟨u, hu, hr⟩ := hc k (.str ss[k]) (by simp [textsA, hk])
    rw [hoff, Nat.zero_add] at hu
    simp only [VR] at hr
    rw [hu, hr]
  have hH : Holds encStr w (τ.at_ j).block 0 ss.toArray := fun k hk => by
    have hk' : k < ss.length := by simpa using hk
    refine ⟨?_, ?_⟩
    · simp only [World.cell?, hb, Nat.zero_add]
      rw [hcell k hk']
      simp [hk']
    · simp only [World.frozen?, hb]
      obtain ⟨lo, hi⟩ := fz
      rcases hfz with h1 | h1
      · simp only at h1
        subst h1
        simp
      · simp only at h1
        simp
        omega
  have hcall := Any.sort_Strings Try.lays192 (τ.at_ j).block 0 ss.length ss w hH hblk (by omega)
  have hcall : Calls Try.prog 103 #[.slice (some ⟨(τ.at_ j).block, 0, none⟩) ss.length ss.length] w fun e w' => e = .returned (.tuple #[]) ∧ ∃ n os, w' = grow (putRow encStr (Sort.ahead w n) (τ.at_ j).block 0 (ss.mergeSort fun x y => decide (x ≤ y)).toArray) os := hcall
  have ha : τ.addr j 0 = ⟨(τ.at_ j).block, 0, none⟩ := by simp [Sig.addr, hoff]
  rw [ha]
  refine hcall.mono fun e' w' hr => ?_
  obtain ⟨rfl, n, os, rfl⟩ := hr
  refine ⟨rfl, ?_⟩
  have r1 : R E0.size B W0 τ h (Sort.ahead w n) := r.world (below_ahead w n)
  have hb1 : (Sort.ahead w n).heap[(τ.at_ j).block]? = some (.cells c e fz) := hb
  generalize Sort.ahead w n = w1 at r1 hb1
  have r2 : R E0.size B W0 τ (h.set j (.cells (textsA (sortB ss)) 9 .own)) (putRow encStr w1 (τ.at_ j).block 0 (ss.mergeSort fun x y => decide (x ≤ y)).toArray) := by
    refine r1.set hj (by rw [hg]; exact fun h => by cases h) (by simp) rfl rfl rfl (fun k hk => ?_) hB ⟨?_⟩
    · simp only [putRow, mapBlock, Array.getElem?_modify]
      rw [if_neg (fun e => hk e.symm)]
    · refine ⟨putCells encStr 0 (ss.mergeSort fun x y => decide (x ≤ y)).toArray c, e, fz, ?_, fun k v hv => ?_, fun _ => ⟨hB, hoff, ?_, fun _ => ?_, fun h => by cases h⟩⟩
      · simp only [putRow, mapBlock, Array.getElem?_modify, hb1, if_pos, Option.map_some]
        rfl
      · have hk : k < ss.length := by
          have := (List.getElem?_eq_some_iff.1 hv).1
          rwa [textsA_len, sortB_len] at this
        have hk2 : k < (sortB ss).length := by rw [sortB_len]; exact hk
        have hv2 : v = .str (sortB ss)[k] := by
          simp [textsA, hk2] at hv
          exact hv.symm
        subst hv2
        refine ⟨encStr (sortB ss)[k], ?_, by simp only [VR]⟩
        rw [hoff, Nat.zero_add]
        simp only [putCells, Array.getElem?_mapIdx]
        have hck : c[k]? = some (c[k]'(by omega)) := Array.getElem?_eq_getElem (by omega)
        rw [hck]
        have hlt : k < (ss.mergeSort fun x y => decide (x ≤ y)).toArray.size := by simpa [sortB] using hk2
        simp only [Option.map_some]
        rw [if_pos ⟨Nat.zero_le _, by omega⟩, Nat.sub_zero]
        rw [getElem!_pos _ k hlt]
        rfl
      · rcases hfz with h1 | h1
        · exact .inl h1
        · exact .inr (by simpa [putCells] using h1)
      · simp [putCells, textsA_len, sortB_len, hcs]
  exact r2.world (below_grow _ os)
end Go.Proofs.Yteblojfcalgoeaa

/- Seat 1: naming.Under: the collecting loop. Conditions: none. -/
set_option linter.unusedVariables false
set_option linter.unusedSimpArgs false
namespace Go.Proofs.Yteblojfcalgoeaa
open Go Go.RowKit
set_option maxRecDepth 100000

def strK : Value → List UInt8
  | .string b => b.data.toList
  | _ => []

theorem und170 : ∃ k e, Try.prog.underlying 170 = some (.map k e) := by
  have h : (match Try.prog.underlying 170 with | some (.map _ _) => true | _ => false) = true := by kernel_rfl
  split at h
  · rename_i k e h2; exact ⟨k, e, h2⟩
  · cases h
theorem slT48 : slT E0 48 9 1 16 = true := by kernel_rfl
theorem seqT48 : seqT E0 48 = true := by kernel_rfl
theorem bt48 {h : AH} {s : List UInt8} : aBuildSlice E0 h 48 1 [(0, .str s)] = some (.sl h.next 0 1 1 false, h.push (.cells [.str s] 9 .own)) := by kernel_rfl

/-- One round's end: the key is appended. -/
theorem round_append {K : Caller} {fr : Nat → AV} {h : AH} {j c n : Nat} {ss : List (List UInt8)} {s : List UInt8} (h10 : fr 10 = .sl j 0 c n false) (h11 : fr 11 = .str s) (hs : SpA 9 1 h (.sl j 0 c n false) c n (textsA ss)) (hc : c < n) :
    wCode E0 K 100000 (slim E0 50 (.region 13 U13 false)) fr h fun r => ∃ fr4 h4, r = .go 0 fr4 h4 ∧ fr4 38 = fr 38 ∧ fr4 10 = .sl j 0 (c + 1) n false ∧ SpA 9 1 h4 (.sl j 0 (c + 1) n false) (c + 1) n (textsA (ss ++ [s])) ∧ h4.next = h.next + 1 ∧ Keep h h4 [j] := by
  rw [u13]
  have hj : j < h.next := by
    obtain ⟨_, _, i, rest, e, hi, _⟩ := hs
    cases e; exact hi
  have k1 := Keep.push h (.cells [.str s] 9 .own)
  have hs1 : SpA 9 1 (h.push (.cells [.str s] 9 .own)) (.sl j 0 c n false) c n (textsA ss) := by
    obtain ⟨a1, a2, i, rest, e, hi, hg, hr⟩ := hs
    cases e
    exact ⟨a1, a2, _, rest, rfl, by simp; omega, by rw [get_push_old hi]; exact hg, hr⟩
  obtain ⟨v', h', e1, e2, e3, e4, e5⟩ := append_spA slT48 seqT48 hs1 (OwnA.own (h := h) (e := 9) (sz := 1) (n := 1) (cs := [.str s]) rfl rfl).gs.news rfl rfl (by omega) (by omega)
  have e5 := e5 j false rfl
  subst e5
  simp only [go_sem, reduceIte, Nat.reduceEqDiff, Nat.reduceAdd, Nat.reduceMul, Nat.reduceSub, Int.reduceLE, Int.reduceLT, Int.reduceNe, Int.reduceToNat, Int.reducePow, Int.reduceAdd, Int.reduceMul, reduceCtorEq, true_and, and_true, cond_true, cond_false, List.map_cons, List.map_nil, Option.map_some, Option.map_none, List.getElem?_cons_zero, List.getElem?_cons_succ, ne_eq, not_false_eq_true, List.nil_append, List.append_nil, List.cons_append, List.contains_cons, List.contains_nil, Nat.reduceBEq, Bool.or_false, Bool.false_or, Bool.true_or, Bool.or_true, h10, h11, bt48, e1]
  refine ⟨_, _, rfl, by simp only [go_sem, reduceIte, Nat.reduceEqDiff, Nat.reduceAdd, Nat.reduceMul, Nat.reduceSub, Int.reduceLE, Int.reduceLT, Int.reduceNe, Int.reduceToNat, Int.reducePow, Int.reduceAdd, Int.reduceMul, reduceCtorEq, true_and, and_true, cond_true, cond_false, List.map_cons, List.map_nil, Option.map_some, Option.map_none, List.getElem?_cons_zero, List.getElem?_cons_succ, ne_eq, not_false_eq_true, List.nil_append, List.append_nil, List.cons_append, List.contains_cons, List.contains_nil, Nat.reduceBEq, Bool.or_false, Bool.false_or, Bool.true_or, Bool.or_true], by simp only [go_sem, reduceIte, Nat.reduceEqDiff, Nat.reduceAdd, Nat.reduceMul, Nat.reduceSub, Int.reduceLE, Int.reduceLT, Int.reduceNe, Int.reduceToNat, Int.reducePow, Int.reduceAdd, Int.reduceMul, reduceCtorEq, true_and, and_true, cond_true, cond_false, List.map_cons, List.map_nil, Option.map_some, Option.map_none, List.getElem?_cons_zero, List.getElem?_cons_succ, ne_eq, not_false_eq_true, List.nil_append, List.append_nil, List.cons_append, List.contains_cons, List.contains_nil, Nat.reduceBEq, Bool.or_false, Bool.false_or, Bool.true_or, Bool.or_true], ?_, by simpa using e4, ?_⟩
  · rw [show textsA (ss ++ [s]) = textsA ss ++ [.str s] by simp [textsA]]; exact e2
  · exact (k1.trans e3).mono (by simp [ids])

theorem addr0 {σ : Sig} {i : Nat} (h : (σ.at_ i).off = 0) : σ.addr i 0 = ⟨(σ.at_ i).block, 0, none⟩ := by simp [Sig.addr, h]

/-- What holds in the loop. -/
structure LoopI (B : Nat) (W0 : World) (σ : Sig) (h1 : AH) (mi j n blk : Nat) (en : Array MapEntry) (cl : Nat) (pk : List MapEntry) (τ : Sig) (h : AH) (fr : Nat → AV) (a : Act) (w : World) : Prop where
  se : SE σ τ
  r : R E0.size B W0 τ h w
  f : FR τ fr a
  tm : a.tmps.size = 50
  df : a.defers = []
  nx : h.next = h1.next + 1 + pk.length
  old : ∀ i, i < h1.next → i ≠ mi → i ≠ j → h.get i = h1.get i
  hm : h.get mi = .raw (.map en cl)
  hi : h.get h1.next = .raw (.mapIter (some blk) cl (pk.map (·.born)).toArray cl)
  bm : (τ.at_ mi).block = blk
  oi : (τ.at_ h1.next).off = 0
  oj : (τ.at_ j).off = 0
  f38 : fr 38 = .ptr h1.next 0
  f10 : fr 10 = .sl j 0 pk.length n false
  sp : SpA 9 1 h (.sl j 0 pk.length n false) pk.length n (textsA (pk.map fun e => strK e.key))
  mem : ∀ e ∈ pk, e ∈ en.toList
  nd : (pk.map (·.born)).Nodup
  le : pk.length ≤ n

theorem born_nodup {en : Array MapEntry} {cl : Nat} (hb : Born en cl) : (en.toList.map (·.born)).Nodup := by
  rw [List.nodup_iff_pairwise_ne, List.pairwise_iff_getElem]
  intro i k hi hk hik e
  simp only [List.getElem_map] at e
  have h1 : en[i]? = some (en.toList[i]'(by simpa using hi)) := by rw [← Array.getElem?_toList]; exact List.getElem?_eq_getElem _
  have h2 : en[k]? = some (en.toList[k]'(by simpa using hk)) := by rw [← Array.getElem?_toList]; exact List.getElem?_eq_getElem _
  have := hb.2 i k _ _ h1 h2 e
  omega
theorem pick_len {en : Array MapEntry} {pk : List MapEntry} (mem : ∀ e ∈ pk, e ∈ en.toList) (nd : (pk.map (·.born)).Nodup) : pk.length ≤ en.size := by
  have hsub : pk ⊆ en.toList := mem
  have hpn : pk.Nodup := by
    have := nd
    rw [List.nodup_iff_pairwise_ne, List.pairwise_map] at this
    exact this.imp fun h e => h (by rw [e])
  have := List.Nodup.length_le_of_subset hpn hsub
  simpa using this
theorem pick_all {en : Array MapEntry} {cl : Nat} (hb : Born en cl) {pk : List MapEntry} (mem : ∀ e ∈ pk, e ∈ en.toList) (nd : (pk.map (·.born)).Nodup) (hl : (leftOf en (pk.map (·.born)).toArray).size = 0) : pk.Perm en.toList := by
  have hpn : pk.Nodup := by
    have := nd
    rw [List.nodup_iff_pairwise_ne, List.pairwise_map] at this
    exact this.imp fun h e => h (by rw [e])
  have hen : en.toList.Nodup := by
    have := born_nodup hb
    rw [List.nodup_iff_pairwise_ne, List.pairwise_map] at this
    exact this.imp fun h e => h (by rw [e])
  rw [List.perm_ext_iff_of_nodup hpn hen]
  intro e
  refine ⟨mem e, fun he => ?_⟩
  have h0 : leftOf en (pk.map (·.born)).toArray = #[] := Array.eq_empty_of_size_eq_zero hl
  unfold leftOf at h0
  rw [Array.filter_eq_empty_iff] at h0
  have h2 := h0 e (by simpa using he)
  simp at h2
  obtain ⟨e', he', hbe⟩ := h2
  obtain ⟨i, hi⟩ := List.mem_iff_getElem?.1 he
  obtain ⟨k, hk⟩ := List.mem_iff_getElem?.1 (mem e' he')
  rw [Array.getElem?_toList] at hi hk
  have := hb.2 k i e' e hk hi hbe
  subst this
  rw [hi] at hk
  cases hk
  exact he'
end Go.Proofs.Yteblojfcalgoeaa

/- Seat 1: naming.Under: the collecting loop, walked; its contract. Conditions: none. -/
set_option linter.unusedVariables false
set_option linter.unusedSimpArgs false
namespace Go.Proofs.Yteblojfcalgoeaa
open Go Go.RowKit
set_option maxRecDepth 100000

theorem FR.val {σ : Sig} {fr : Nat → AV} {a : Act} (hf : FR σ fr a) {t : Nat} {v : AV} (hv : fr t = v) : VR σ v (a.eval (.tmp t)) := by
  have := hf t
  rw [hv] at this
  exact this

theorem left_mem {en : Array MapEntry} {bs : List Nat} {e : MapEntry} (h : e ∈ (leftOf en bs.toArray).toList) : e ∈ en.toList ∧ e.born ∉ bs := by
  unfold leftOf at h
  simp at h
  exact ⟨by simpa using h.1, h.2⟩

theorem collect_rounds {K : Caller} (okK : CallOK Try.prog E0.size K) {B : Nat} {W0 : World} {σ : Sig} {h1 : AH} {mi j n blk : Nat} {en : Array MapEntry} {cl : Nat} (hborn : Born en cl)
    (hkeys : ∀ e ∈ en.toList, ∃ (kk : List UInt8) (x : AV), e.key = .string ⟨kk.toArray⟩ ∧ VR σ x e.val) (hsz : en.size = n) (hmi : mi < h1.next) (hj : j < h1.next) (hne : mi ≠ j)
    {Q : Exit → Act → World → Prop} (hQ : ∀ pk τ h fr a w, LoopI B W0 σ h1 mi j n blk en cl pk τ h fr a w → pk.Perm en.toList → Q (.exit 2) a w) :
    ∀ (k : Nat) (pk : List MapEntry) (τ : Sig) (h : AH) (fr : Nat → AV) (a : Act) (w : World), LoopI B W0 σ h1 mi j n blk en cl pk τ h fr a w → n - pk.length < k →
      Code.rounds Try.prog (.seq (.region 11 U11 false) (.seq (.cond (.tmp 40) .skip (.exit 2)) (.block 3 (.seq (.region 12 U12 false) (.region 13 U13 false))))) Q k a w := by
  intro k
  induction k with
  | zero => intro pk τ h fr a w I hk; exact absurd hk (Nat.not_lt_zero _)
  | succ k ih =>
    intro pk τ h fr a w I hk
    obtain ⟨o, p, o0, og, od, oop, p0, pg, pd, pop, hs11⟩ := u11
    rw [rounds_succ]
    refine wp_seq (wp_region ?_)
    rw [hs11]
    show wpOps _ _ _ [0, 1] a w
    have hnx := I.nx
    have hlt : h1.next < h.next := by omega
    have hblk := I.r.obj h1.next hlt
    rw [I.hi] at hblk
    obtain ⟨_, hblk⟩ := hblk
    have hbm := I.r.obj mi (by omega)
    rw [I.hm] at hbm
    obtain ⟨_, hbm⟩ := hbm
    rw [I.bm] at hbm
    have hev : a.eval (.tmp 38) = .pointer (some ⟨(τ.at_ h1.next).block, 0, none⟩) := by
      have := I.f.val I.f38
      simp only [VR] at this
      rw [this.2, addr0 I.oi]
    have hold : ∀ x ∈ en.toList, x.born < cl := fun x hx => by
      obtain ⟨i, hi⟩ := List.mem_iff_getElem?.1 hx
      exact hborn.1 i x (by rw [← Array.getElem?_toList]; exact hi)
    rcases run_next_at (P := Try.prog) w o.type _ blk cl cl _ en cl hblk hbm hold (Nat.le_refl _) with ⟨h0, hrun⟩ | ⟨e, hemem, w1, hw1, hrun⟩
    · refine wpOps_op o0 og (v := .tuple #[.bool false]) (w' := w) (by simp [execOp, oop, hev, hrun, Result.andThen]) ?_
      have hf1 : FR τ (setF fr o.dst (.tup [.bool false])) (a.put o.dst (.tuple #[.bool false])) := I.f.put I.tm (by rw [od]; rfl) (by simp [VR, VRL])
      rw [od] at hf1 ⊢
      refine wpOps_q ok0 I.r hf1 (nt := 50) (ds := []) (by rw [Act.size_put]; exact I.tm) (by rw [Act.defers_put]; exact I.df) p0 pg (by rw [pd]; rfl) (y := .bool false) (by rw [pop]; rfl) fun a2 hf2 tm2 df2 => ?_
      rw [pd] at hf2
      show (Code.seq (.cond (.tmp 40) .skip (.exit 2)) (.block 3 (.seq (.region 12 U12 false) (.region 13 U13 false)))).wp _ _ a2 w
      have h40 : a2.eval (.tmp 40) = .bool false := by
        have := hf2.val (t := 40) (v := .bool false) rfl
        simpa only [VR] using this
      refine wp_seq (wp_cond_false h40 (wp_exit ?_))
      exact hQ pk τ h _ a2 w { I with f := hf2, tm := tm2, df := df2, f38 := I.f38, f10 := I.f10 } (pick_all hborn I.mem I.nd h0)
    · obtain ⟨hee, hnb⟩ := left_mem hemem
      obtain ⟨kk, x, hk1, hx1⟩ := hkeys e hee
      have r1 : R E0.size B W0 τ h w1 := by
        rcases hw1 with rfl | rfl
        · exact I.r
        · exact I.r.drew
      have r2 := r1.putRaw hlt I.hi (.mapIter (some blk) cl ((pk.map (·.born)).toArray.push e.born) cl)
      have r2 : R E0.size B W0 τ (h.set h1.next (.raw (.mapIter (some blk) cl ((pk.map (·.born)).toArray.push e.born) cl))) (ChangeMaps.setBlock w1 (τ.at_ h1.next).block (.mapIter (some blk) cl ((pk.map (·.born)).toArray.push e.born) cl)) := r2
      generalize hw' : ChangeMaps.setBlock w1 (τ.at_ h1.next).block (.mapIter (some blk) cl ((pk.map (·.born)).toArray.push e.born) cl) = w2 at hrun r2
      refine wpOps_op o0 og (v := .tuple #[.bool true, e.key, e.val]) (w' := w2) (by simp [execOp, oop, hev, hrun, Result.andThen]) ?_
      have hvx : VR τ x e.val := VR.mono I.se _ _ hx1
      have hf1 : FR τ (setF fr o.dst (.tup [.bool true, .str kk, x])) (a.put o.dst (.tuple #[.bool true, e.key, e.val])) := I.f.put I.tm (by rw [od]; rfl) (by
        simp only [VR]
        refine ⟨_, rfl, ?_⟩
        simp only [VRL, VR]
        exact ⟨_, _, rfl, rfl, _, _, rfl, hk1, _, _, rfl, hvx, rfl⟩)
      rw [od] at hf1 ⊢
      refine wpOps_q ok0 r2 hf1 (nt := 50) (ds := []) (by rw [Act.size_put]; exact I.tm) (by rw [Act.defers_put]; exact I.df) p0 pg (by rw [pd]; rfl) (y := .bool true) (by rw [pop]; rfl) fun a2 hf2 tm2 df2 => ?_
      rw [pd] at hf2
      show (Code.seq (.cond (.tmp 40) .skip (.exit 2)) (.block 3 (.seq (.region 12 U12 false) (.region 13 U13 false)))).wp _ _ a2 w2
      have h40 : a2.eval (.tmp 40) = .bool true := by
        have := hf2.val (t := 40) (v := .bool true) rfl
        simpa only [VR] using this
      refine wp_seq (wp_cond_true h40 (wp_skip ?_))
      show (Code.block 3 (.seq (.region 12 U12 false) (.region 13 U13 false))).wp _ _ a2 w2
      obtain ⟨o', p', q', o0', og', od', oop', p0', pg', pd', pop', q0', qg', qd', qop', hs12⟩ := u12
      refine wp_block (wp_seq (wp_region ?_))
      rw [hs12]
      show wpOps _ _ _ [0, 1, 2] a2 w2
      have hblk2 := r2.obj h1.next (by simpa using hlt)
      rw [get_set_same] at hblk2
      obtain ⟨_, hblk2⟩ := hblk2
      have hbm2 := r2.obj mi (by simp; omega)
      rw [get_set_ne (by omega), I.hm] at hbm2
      obtain ⟨_, hbm2⟩ := hbm2
      rw [I.bm] at hbm2
      have hev2 : a2.eval (.tmp 38) = .pointer (some ⟨(τ.at_ h1.next).block, 0, none⟩) := by
        have := hf2.val (t := 38) (v := .ptr h1.next 0) I.f38
        simp only [VR] at this
        rw [this.2, addr0 I.oi]
      have hent := run_entry_at (P := Try.prog) w2 _ blk cl _ en cl e hblk2 hbm2 hee (born_nodup hborn)
      refine wpOps_op o0' og' (v := .tuple #[e.key, e.val]) (w' := w2) (by simp [execOp, oop', hev2, hent, Result.andThen]) ?_
      have hf3 : FR τ (setF _ o'.dst (.tup [.str kk, x])) (a2.put o'.dst (.tuple #[e.key, e.val])) := hf2.put tm2 (by rw [od']; rfl) (by
        simp only [VR]
        refine ⟨_, rfl, ?_⟩
        simp only [VRL, VR]
        exact ⟨_, _, rfl, hk1, _, _, rfl, hvx, rfl⟩)
      rw [od'] at hf3 ⊢
      refine wpOps_q ok0 r2 hf3 (nt := 50) (ds := []) (by rw [Act.size_put]; exact tm2) (by rw [Act.defers_put]; exact df2) p0' pg' (by rw [pd']; rfl) (y := .str kk) (by rw [pop']; rfl) fun a4 hf4 tm4 df4 => ?_
      rw [pd'] at hf4
      refine wpOps_q ok0 r2 hf4 (nt := 50) (ds := []) tm4 df4 q0' qg' (by rw [qd']; rfl) (y := .str kk) (by rw [qop']; rfl) fun a5 hf5 tm5 df5 => ?_
      rw [qd'] at hf5
      show (Code.region 13 U13 false).wp _ _ a5 w2
      have hlen : pk.length + 1 ≤ n := by
        have := pick_len (en := en) (pk := pk ++ [e]) (fun e' he' => by
          rcases List.mem_append.1 he' with a | a
          · exact I.mem e' a
          · simp at a; subst a; exact hee) (by
          rw [List.map_append, List.nodup_append]
          refine ⟨I.nd, by simp, fun a ha b hb => ?_⟩
          simp at hb
          subst hb
          intro heq
          subst heq
          exact hnb ha)
        rw [List.length_append] at this
        simpa [hsz] using this
      have hsp : SpA 9 1 (h.set h1.next (.raw (.mapIter (some blk) cl ((pk.map (·.born)).toArray.push e.born) cl))) (.sl j 0 pk.length n false) pk.length n (textsA (pk.map fun e => strK e.key)) := by
        obtain ⟨b1, b2, i, rest, b3, b4, b5, b6⟩ := I.sp
        cases b3
        exact ⟨b1, b2, _, rest, rfl, by simpa using b4, by rw [get_set_ne (by omega)]; exact b5, b6⟩
      obtain ⟨r13, hcode, hq13⟩ := wCode_sound (E := E0) (K := K) (m := 100000) (nt := 50) (.region 13 U13 false) _ _ _ (round_append (K := K) (fr := setF (setF (setF (setF (setF fr (some 39) (.tup [.bool true, .str kk, x])) (some 40) (.bool true)) (some 41) (.tup [.str kk, x])) (some 42) (.str kk)) (some 11) (.str kk)) (s := kk) (show _ = AV.sl j 0 pk.length n false from I.f10) rfl hsp hlen)
      obtain ⟨fr6, h6, rfl, g38, g10, gsp, gnx, gk⟩ := hq13
      refine code_sound ok0 okK (.region 13 U13 false) r2 hf5 tm5 df5 hcode fun a6 w6 τ6 se6 r6 hf6 tm6 df6 => ?_
      show Code.rounds _ _ Q k a6 w6
      have hτn : τ.n = h.next := I.r.n
      have hget : ∀ i, i < h.next → i ≠ j → i ≠ h1.next → h6.get i = h.get i := fun i hi h2 h3 => by
        rw [gk.get i (by simpa using hi) (by simpa using h2), get_set_ne h3]
      refine ih (pk ++ [e]) τ6 h6 fr6 a6 w6 ⟨I.se.trans se6, r6, hf6, tm6, df6, ?_, ?_, ?_, ?_, ?_, ?_, ?_, ?_, ?_, ?_, ?_, ?_, ?_⟩ ?_
      · rw [gnx]; simp; omega
      · intro i hi h2 h3
        rw [hget i (by omega) h3 (by omega)]
        exact I.old i hi h2 h3
      · rw [hget mi (by omega) hne (by omega)]; exact I.hm
      · rw [gk.get h1.next (by simpa using hlt) (by simp; omega), get_set_same]; simp
      · rw [se6.at_ mi (by omega)]; exact I.bm
      · rw [se6.at_ h1.next (by omega)]; exact I.oi
      · rw [se6.at_ j (by omega)]; exact I.oj
      · rw [g38]; exact I.f38
      · rw [g10]; simp
      · have : strK e.key = kk := by rw [hk1]; simp [strK]
        rw [List.map_append, List.map_cons, List.map_nil, this, List.length_append]
        exact gsp
      · intro e' he'
        rcases List.mem_append.1 he' with a | a
        · exact I.mem e' a
        · simp at a; subst a; exact hee
      · rw [List.map_append, List.nodup_append]
        refine ⟨I.nd, by simp, fun a ha b hb => ?_⟩
        simp at hb
        subst hb
        intro heq
        subst heq
        exact hnb ha
      · simpa using hlen
      · simp; omega
end Go.Proofs.Yteblojfcalgoeaa

/- Seat 1: naming.Under, as a function of its own. Conditions: none. -/
set_option linter.unusedVariables false
set_option linter.unusedSimpArgs false
namespace Go.Proofs.Yteblojfcalgoeaa
open Go Go.RowKit
set_option maxRecDepth 100000

/-- A call of one argument, whose answer is known. -/
theorem wpOps_call {P : Program} {E : Env} (ok : EnvT P E) {ops : Array Oper} {Q : Exit → Act → World → Prop} {k : Nat} {rest : List Nat} {a : Act} {w : World} {o : Oper} {g : FuncId} {F : Func} {x : Operand} {ts : Array TypeId}
    (hF : E.fn g = some F) (h0 : ops[k]? = some o) (hg : o.guard = none) (hop : o.op = .call ⟨.value (.func g), #[x], ts⟩)
    (hc : Calls P g #[a.eval x] w fun e w' => ∃ u, e = .returned u ∧ wpOps P ops Q rest (a.put o.dst u) w') : wpOps P ops Q (k :: rest) a w := by
  rw [wpOps_cons]
  unfold wpOp
  simp only [h0]
  rw [if_pos (by simp [Region.wanted, hg])]
  left
  unfold Oper.wp
  have e1 : (execOp a.eval o).run P w = .ok (.enter g #[a.eval x]) w := by
    have e2 : execOp a.eval o = (do let d ← resolve a.eval ⟨.value (.func g), #[x], ts⟩ o.type; invoke d.target d.args) := by simp only [execOp, hop]
    have hev : a.eval (.func g) = .func (.func g) #[] #[] := rfl
    rw [e2]
    simp only [resolve, hev, Deferred.ofValue, Sem.run_bind, Sem.run_pure, Result.andThen_ok, invoke]
    rw [run_callFunc ok hF]
    simp
  rw [e1, Oper.upon_enter]
  refine hc.mono fun e w' hr => ?_
  obtain ⟨u, rfl, hk⟩ := hr
  exact hk

theorem sortB_perm {a b : List (List UInt8)} (h : a.Perm b) : sortB a = sortB b := by
  unfold sortB
  have tr : ∀ x y z : List UInt8, decide (x ≤ y) = true → decide (y ≤ z) = true → decide (x ≤ z) = true := fun x y z h1 h2 => by
    simp only [decide_eq_true_eq] at *
    exact List.le_trans h1 h2
  have tot : ∀ x y : List UInt8, (decide (x ≤ y) || decide (y ≤ x)) = true := fun x y => by
    simp only [Bool.or_eq_true, decide_eq_true_eq]
    exact List.le_total x y
  have p1 := List.pairwise_mergeSort tr tot a
  have p2 := List.pairwise_mergeSort tr tot b
  refine List.Perm.eq_of_pairwise ?_ p1 p2 ((List.mergeSort_perm a _).trans (h.trans (List.mergeSort_perm b _).symm))
  intro x y _ _ h1 h2
  simp only [decide_eq_true_eq] at h1 h2
  exact List.le_antisymm h1 h2

theorem f61_fn : E0.fn 61 = some Try.f61 := by kernel_rfl
theorem f103_fn : ∃ F, E0.fn 103 = some F := by
  have h : (E0.fn 103).isSome = true := by kernel_rfl
  exact ⟨_, (Option.eq_some_of_isSome h)⟩
theorem f61_body : Try.f61.body = some body61 := by kernel_rfl
theorem f61_nt : Try.f61.ntmps = 50 := by kernel_rfl
theorem f61_res : Try.f61.results = #[.tmp 4] := by kernel_rfl

theorem underSp_ok : SpecAt Try.prog E0.size 61 underSp := by
  intro K okK args h out he B W0 σ w vs r hv
  unfold underSp at he
  split at he
  case h_2 => cases he
  rename_i x y
  split at he
  case h_2 => cases he
  rename_i fr h1 hcode
  unfold underTail at he
  split at he
  case h_2 => cases he
  rename_i mi j n h5 h10
  split at he
  case h_2 => cases he
  rename_i es cs hgm hgj
  rw [cond_eq_ite] at he
  split at he
  case isFalse => cases he
  rename_i hcond
  simp only [Bool.and_eq_true, Bool.not_eq_true'] at hcond
  obtain ⟨c1, c2, c3, c4, c5, c6⟩ := hcond
  have c1 := Nat.eq_of_beq_eq_true c1
  have c2 := Nat.eq_of_beq_eq_true c2
  have c3 := Nat.le_of_ble_eq_true c3
  have c4 : mi ≠ j := Nat.ne_of_beq_eq_false c4
  have c5 := blt_lt c5
  have c6 := blt_lt c6
  cases he
  have hl := hv.length
  simp at hl
  obtain ⟨hf, _, _⟩ := ok0.fn 61 _ f61_fn
  refine calls_of_wp hf f61_body ?_
  rw [body61_eq]
  have hn : ({ tmps := vs ++ Array.replicate (Try.f61.ntmps - vs.size) undef, defers := [] } : Act).tmps.size = 50 := by rw [f61_nt]; simp; omega
  have hfr : FR σ (frame0 [x, y]) { tmps := vs ++ Array.replicate (Try.f61.ntmps - vs.size) undef, defers := [] } := by
    intro t
    simp only [frame0]
    cases ht : [x, y][t]? with
    | some v =>
      obtain ⟨u, hu, hr⟩ := hv.get ht
      have hlt := (List.getElem?_eq_some_iff.1 ht).1
      simp at hlt
      rw [Array.getD_eq_getD_getElem?, Array.getElem?_append_left (by omega)]
      rw [Array.getElem?_toList] at hu
      rw [hu]
      exact hr
    | none =>
      have hge : vs.size ≤ t := by
        rw [hl]
        simpa using List.getElem?_eq_none_iff.1 ht
      rw [Array.getD_eq_getD_getElem?, Array.getElem?_append_right hge, Array.getElem?_replicate]
      have e : (if t - vs.size < Try.f61.ntmps - vs.size then some undef else none : Option Value).getD undef = undef := by split <;> rfl
      rw [e]
      exact VR.undef σ
  refine seqs_sound ok0 okK pre61 r hfr hn rfl hcode fun a w τ se r1 hf1 tm1 df1 => ?_
  -- the range begins
  obtain ⟨o, p, o0, og, od, oop, p0, pg, pd, pop, hs10⟩ := u10
  refine wp_seq (wp_seq (wp_region ?_))
  rw [hs10]
  show wpOps _ _ _ [0, 1] a w
  refine wpOps_q ok0 r1 hf1 (nt := 50) (ds := []) tm1 df1 o0 og (by rw [od]; rfl) (y := .map mi) (by rw [oop]; show some (fr 5) = _; rw [h5]) fun a1 hf2 tm2 df2 => ?_
  rw [od] at hf2
  have h37 := hf2.val (t := 37) (v := .map mi) rfl
  simp only [VR] at h37
  obtain ⟨hmn, h37⟩ := h37
  obtain ⟨en, cl, hb, hr, hen, hm, hborn⟩ := r1.run_map' (P := Try.prog) hmn hgm
  obtain ⟨kt, et, hu⟩ := und170
  have hrun : (Instr.range 170 (.map (some (τ.at_ mi).block))).run Try.prog w = .ok (.pointer (some ⟨w.heap.size, 0, none⟩)) (w.alloc (.mapIter (some (τ.at_ mi).block) cl #[] cl)) := by
    simp [Instr.range, run_underlying hu, hr]
  refine wpOps_op p0 pg (v := .pointer (some ⟨w.heap.size, 0, none⟩)) (w' := w.alloc (.mapIter (some (τ.at_ mi).block) cl #[] cl)) (by simp [execOp, pop, h37, hrun, Result.andThen]) ?_
  have r2 := (r1.rawMap c5 hgm hb).newRaw (.mapIter (some (τ.at_ mi).block) cl #[] cl)
  have se2 : SE τ (τ.add ⟨w.heap.size, 0, 0⟩) := τ.se_add _
  have hτn : τ.n = h1.next := r1.n
  have hat : (τ.add ⟨w.heap.size, 0, 0⟩).at_ h1.next = ⟨w.heap.size, 0, 0⟩ := by rw [← hτn]; exact τ.at_add _
  have hf3 : FR (τ.add ⟨w.heap.size, 0, 0⟩) (setF _ p.dst (.ptr h1.next 0)) (a1.put p.dst (.pointer (some ⟨w.heap.size, 0, none⟩))) := (hf2.mono se2).put tm2 (by rw [pd]; rfl) (by
    simp only [VR]
    exact ⟨by simp [Sig.add, hτn], by rw [addr0 (by rw [hat]), hat]⟩)
  rw [pd] at hf3 ⊢
  have hoj : (τ.at_ j).off = 0 := by
    have ho := r1.obj j c6
    rw [hgj] at ho
    obtain ⟨_, _, _, _, _, hm2⟩ := ho.row
    exact (hm2 (by decide)).2.1
  have hkeys : ∀ e ∈ en.toList, ∃ (kk : List UInt8) (x : AV), e.key = .string ⟨kk.toArray⟩ ∧ VR τ x e.val := fun e he => by
    obtain ⟨i, hi⟩ := List.mem_iff_getElem?.1 he
    rw [Array.getElem?_toList] at hi
    have hlt : i < es.length := by
      have := (Array.getElem?_eq_some_iff.1 hi).1
      omega
    obtain ⟨a1, a2⟩ := hm i es[i] e (List.getElem?_eq_getElem hlt) hi
    exact ⟨_, _, a1, a2⟩
  have hkl : en.toList.map (fun e => strK e.key) = es.map (·.1) := by
    apply List.ext_getElem?
    intro i
    rw [List.getElem?_map, List.getElem?_map]
    by_cases hi : i < es.length
    · have h1 : en.toList[i]? = some (en.toList[i]'(by simp; omega)) := List.getElem?_eq_getElem _
      rw [h1, List.getElem?_eq_getElem hi]
      obtain ⟨a1, _⟩ := hm i es[i] _ (List.getElem?_eq_getElem hi) (by rw [← Array.getElem?_toList]; exact h1)
      simp only [Option.map_some, a1]
      simp [strK]
    · rw [List.getElem?_eq_none (by simp; omega), List.getElem?_eq_none (by omega)]
      rfl
  show (Code.block 2 _).wp _ _ _ _
  refine wp_block (wp_loop_rounds (n + 1) (collect_rounds (blk := (τ.at_ mi).block) okK hborn hkeys (by omega) c5 c6 c4 (B := B) (W0 := W0) (σ := τ) (h1 := h1) (n := n) (fun pk τ6 h6 fr6 a6 w6 I hperm => ?_) (n + 1) [] (τ.add ⟨w.heap.size, 0, 0⟩) _ _ _ _ ⟨se2, r2, hf3, by rw [Act.size_put]; exact tm2, by rw [Act.defers_put]; exact df2, by simp, ?_, ?_, ?_, ?_, ?_, ?_, rfl, ?_, ?_, by simp, by simp, by simp⟩ (by simp)))
  · -- behind the loop
    show (Code.seq (.region 14 U14 false) (.seq (.region 15 U15 false) .ret)).wp _ _ a6 w6
    have hpl : pk.length = n := by
      have := hperm.length_eq
      simp at this
      omega
    have hss : (pk.map fun e => strK e.key).length = n := by simpa using hpl
    have hnx := I.nx
    obtain ⟨o, p, o0, og, od, oop, p0, pg, pd, pop, hs14⟩ := u14
    refine wp_seq (wp_region ?_)
    rw [hs14]
    show wpOps _ _ _ [0, 1] a6 w6
    refine wpOps_q ok0 I.r I.f (nt := 50) (ds := []) I.tm I.df o0 og (by rw [od]; rfl) (y := .sl j 0 n n false) (by rw [oop]; show some (fr6 10) = _; rw [I.f10, hpl]) fun a7 hf7 tm7 df7 => ?_
    rw [od] at hf7
    have h47 := hf7.val (t := 47) (v := .sl j 0 n n false) rfl
    simp only [VR, Bool.false_eq_true, if_false] at h47
    obtain ⟨_, h47, _⟩ := h47
    obtain ⟨F, hF⟩ := f103_fn
    have hgj6 : h6.get j = .cells (textsA (pk.map fun e => strK e.key)) 9 .own := by
      obtain ⟨_, _, i, rest, e, _, hg, hr⟩ := I.sp
      cases e
      have : rest = [] := List.eq_nil_of_length_eq_zero (by rw [hr, hpl]; simp)
      rw [hg, this, List.append_nil]
    have hsort := sort_calls I.r (j := j) (by omega) hgj6 (by omega) I.oj
    rw [hss] at hsort
    refine wpOps_call ok0 hF p0 pg pop ?_
    rw [h47]
    refine hsort.mono fun e w8 hr8 => ?_
    obtain ⟨rfl, r8⟩ := hr8
    refine ⟨_, rfl, ?_⟩
    have hf8 : FR τ6 (setF _ p.dst (.tup [])) (a7.put p.dst (.tuple #[])) := hf7.put tm7 (by rw [pd]; rfl) (by simp [VR, VRL])
    rw [pd] at hf8 ⊢
    show (Code.seq (.region 15 U15 false) .ret).wp _ _ _ w8
    obtain ⟨o', p', o0', og', od', oop', p0', pg', pd', pop', hs15⟩ := u15
    refine wp_seq (wp_region ?_)
    rw [hs15]
    show wpOps _ _ _ [0, 1] _ w8
    refine wpOps_q ok0 r8 hf8 (nt := 50) (ds := []) (by rw [Act.size_put]; exact tm7) (by rw [Act.defers_put]; exact df7) o0' og' (by rw [od']; rfl) (y := .sl j 0 n n false) (by rw [oop']; show some (fr6 10) = _; rw [I.f10, hpl]) fun a9 hf9 tm9 df9 => ?_
    rw [od'] at hf9
    refine wpOps_q ok0 r8 hf9 (nt := 50) (ds := []) tm9 df9 p0' pg' (by rw [pd']; rfl) (y := .sl j 0 n n false) (by rw [pop']; rfl) fun a10 hf10 tm10 df10 => ?_
    rw [pd'] at hf10
    refine wp_ret ?_
    obtain ⟨u, hu, hvr⟩ := aResults_sound (P := Try.prog) ok0 (F := Try.f61) r8 hf10 (v := .sl j 0 n n false) (by rw [aResults_one f61_res]; rfl)
    refine ⟨df10, u, hu, u, τ6, rfl, se.trans I.se, ?_, hvr⟩
    have hsb : sortB (pk.map fun e => strK e.key) = sortB (es.map (·.1)) := by
      rw [← hkl]
      exact sortB_perm (hperm.map _)
    rw [← hsb]
    refine R.grow (k := n + 1) (h := (h1.set mi .dead).set j (.cells (textsA (sortB (pk.map fun e => strK e.key))) 9 .own)) r8 (by simp; omega) fun i hi => ?_
    have hi : i < h1.next := by simpa using hi
    by_cases e1 : i = j
    · subst e1
      left
      rw [get_set_same, get_set_same]
    · by_cases e2 : i = mi
      · subst e2
        right
        rw [get_set_ne e1, get_set_same]
      · left
        rw [get_set_ne e1, get_set_ne e1, get_set_ne e2]
        exact I.old i hi e2 e1
  · intro i hi h2 h3
    rw [get_push_old (by simpa using hi), get_set_ne h2]
  · rw [get_push_old (by simpa using c5), get_set_same]
  · rw [get_push_new (by simp)]; simp
  · exact congrArg Place.block (se2.at_ mi (by omega))
  · rw [hat]
  · rw [se2.at_ j (by omega)]; exact hoj
  · show fr 10 = _
    rw [h10]; rfl
  · refine ⟨Nat.zero_le n, by simp [textsA], j, cs, rfl, by simp; omega, ?_, by simpa using c2⟩
    rw [get_push_old (by simpa using c6), get_set_ne (Ne.symm c4), hgj]
    rfl
end Go.Proofs.Yteblojfcalgoeaa
