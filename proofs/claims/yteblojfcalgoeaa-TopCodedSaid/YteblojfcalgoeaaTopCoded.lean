/- TopCoded: for every input it answers true, and each argument reads behind the call as it read before. Conditions: none. -/
import Derived.Test.YteblojfcalgoeaaMX
import Derived.Test.YteblojfcalgoeaaME
import Derived.Test.YteblojfcalgoeaaRows
set_option linter.unusedVariables false
set_option linter.unusedSimpArgs false
/- TopCoded: for every input it answers true, and each argument reads as it did. Conditions: none. -/
namespace Go.Proofs.Yteblojfcalgoeaa
open Go Go.RowKit
set_option maxRecDepth 100000
set_option linter.unusedSimpArgs false
set_option linter.unusedVariables false

/-- A slice of bytes that came in. -/
theorem bytes_of_has {h : AH} {avs : List AV} (hh : Has h (.sl (.int .u8)) avs) : ∃ v bs, avs = [v] ∧ v.atom = true ∧ BS h v bs := by
  simp only [Has] at hh
  obtain ⟨v, n, cs, rfl, ha, hg, hc⟩ := hh
  have hsz : (Sh.int IntKind.u8).size = 1 := rfl
  rw [hsz] at hg hc
  have hl := hg.len
  have key : ∀ (m : Nat) (cs : List AV), cs.length = m → (∀ j, j < m → ∃ x, (cs.drop (j * 1)).take 1 = [AV.int IntKind.u8 x] ∧ (Lit.int IntKind.u8 x).wf = true) → ∃ bs : List UInt8, bs.length = m ∧ cs = u8s bs := by
    intro m
    induction m with
    | zero => intro cs hl _; exact ⟨[], rfl, List.eq_nil_of_length_eq_zero hl⟩
    | succ m ih =>
      intro cs hl hc
      cases cs with
      | nil => simp at hl
      | cons c cs =>
        obtain ⟨x, h1, h2⟩ := hc 0 (by omega)
        simp at h1
        subst h1
        obtain ⟨bs, h3, rfl⟩ := ih cs (by simpa using hl) (fun j hj => by
          obtain ⟨x, a, b⟩ := hc (j + 1) (by omega)
          refine ⟨x, ?_, b⟩
          rw [Nat.mul_one] at a ⊢
          simpa using a)
        have hx : 0 ≤ x ∧ x < 256 := by
          simp [Lit.wf, IntKind.min, IntKind.max, IntKind.signed, IntKind.bits] at h2
          omega
        refine ⟨UInt8.ofNat x.toNat :: bs, by simp [h3], ?_⟩
        simp [u8s]
        omega
  obtain ⟨bs, h1, rfl⟩ := key n cs (by omega) hc
  refine ⟨v, bs, rfl, ha, ?_⟩
  cases v <;> simp only [GS] at hg <;> simp only [BS]
  case sl i o n' c l =>
    obtain ⟨⟨rfl, b⟩, _, c1, cs', t, m, c2, c3, c4⟩ := hg
    subst h1
    exact ⟨⟨rfl, b⟩, c1, cs', t, m, c2, by omega, by rw [Nat.mul_one] at c4; exact c4⟩
  case emp => exact List.eq_nil_of_length_eq_zero (by omega)
  case nils => exact List.eq_nil_of_length_eq_zero (by omega)

theorem wf_nat {k : IntKind} {x : Int} (h : (Lit.int k x).wf = true) (hk : k.signed = false) : ∃ n : Nat, x = (n : Int) ∧ n < 2 ^ k.bits := by
  refine ⟨x.toNat, ?_, ?_⟩ <;> cases k <;> simp [IntKind.signed] at hk <;> simp [Lit.wf, IntKind.min, IntKind.max, IntKind.signed, IntKind.bits] at h ⊢ <;> omega

def itemSh : Sh := .agg [.int .u8, .int .u64, .sl (.int .u8)]
theorem item_of_has {h : AH} {avs : List AV} (hh : Has h itemSh avs) : ∃ (x : It) (rv : AV), avs = [.int .u8 (x.kind : Nat), .int .u64 (x.n : Nat), rv] ∧ rv.atom = true ∧ BS h rv x.raw ∧ x.kind < 256 ∧ x.n < 18446744073709551616 := by
  have hl := Has.len _ _ hh
  have hl : avs.length = 3 := hl
  match avs, hl with
  | [a, b, c], _ =>
    simp only [itemSh, Has, HasL, Sh.size, List.take_succ_cons, List.take_zero, List.drop_succ_cons, List.drop_zero] at hh
    obtain ⟨⟨k, h1, h2⟩, ⟨m, h3, h4⟩, hb, _⟩ := hh
    have hb' : Has h (.sl (.int .u8)) [c] := by simpa only [Has, Sh.size] using hb
    obtain ⟨rv, bs, h5, h6, h7⟩ := bytes_of_has hb'
    obtain ⟨kn, rfl, hk⟩ := wf_nat h2 rfl
    obtain ⟨mn, rfl, hm⟩ := wf_nat h4 rfl
    simp at h1 h3 h5
    subst h1 h3 h5
    exact ⟨⟨kn, mn, bs⟩, c, rfl, h6, h7, hk, hm⟩

theorem its_of_has {h : AH} {avs : List AV} (hh : Has h (.sl itemSh) avs) : ∃ v l, avs = [v] ∧ v.atom = true ∧ ItS h.next h v l := by
  simp only [Has] at hh
  obtain ⟨v, n, cs, rfl, ha, hg, hc⟩ := hh
  have hsz : itemSh.size = 3 := rfl
  rw [hsz] at hg hc
  have hex : ∀ j, ∃ (x : It) (rv : AV), j < n → ((cs.drop (j * 3)).take 3 = [.int .u8 (x.kind : Nat), .int .u64 (x.n : Nat), rv] ∧ rv.atom = true ∧ BS h rv x.raw ∧ x.kind < 256 ∧ x.n < 18446744073709551616) := fun j => by
    by_cases hj : j < n
    · obtain ⟨x, rv, a⟩ := item_of_has (hc j hj)
      exact ⟨x, rv, fun _ => a⟩
    · exact ⟨⟨0, 0, []⟩, .nils, fun h => absurd h hj⟩
  obtain ⟨fx, hfx⟩ := Classical.axiomOfChoice hex
  refine ⟨v, (List.range n).map fx, rfl, ha, Nat.le_refl _, hg.lt, cs, by simpa using hg, fun j x hx => ?_⟩
  have hj : j < n := by have := (List.getElem?_eq_some_iff.1 hx).1; simpa using this
  simp [hj] at hx
  subst hx
  obtain ⟨rv, hrv⟩ := hfx j
  obtain ⟨a1, a2, a3, a4, a5⟩ := hrv hj
  have g : ∀ d, d < 3 → cs[j * 3 + d]? = [AV.int .u8 ((fx j).kind : Nat), .int .u64 ((fx j).n : Nat), rv][d]? := fun d hd => by
    rw [← a1, List.getElem?_take, if_pos hd, List.getElem?_drop]
  exact ⟨rv, by rw [g 0 (by omega)]; rfl, by rw [g 1 (by omega)]; rfl, by rw [g 2 (by omega)]; rfl, a3, a2, fun i hi => a3.lt i hi, a4, a5⟩

theorem topCoded_law : LawCon E0 sp0 100000 21 3 [.sl itemSh, .int .u16] := by
  intro h L hh
  match L, hh with
  | [a, b], hh =>
    obtain ⟨h1, h2, _⟩ := hh
    obtain ⟨v, l, rfl, hva, hl⟩ := its_of_has h1
    simp only [Has] at h2
    obtain ⟨x, rfl, hw⟩ := h2
    obtain ⟨cut, rfl, hcut⟩ := wf_nat hw rfl
    have hc := topCoded_con v cut l h.next h hl hva hcut
    exact hc.mono (fun o ho => by obtain ⟨h', e, _⟩ := ho; exact ⟨h', e⟩) (Nat.le_refl _)

theorem laid0 : laidOutB Try.prog = true := by kernel_rfl
theorem own0 : ownKnob Try.prog.godebug = none := by kernel_rfl

theorem topCoded_lifted (os : Os) (started : os.Started) (H : Type) (enc : TypeId × Value → H) :
    ReturnsInLeavingWide {} Try.checked os 3 .any (Rows.topCodedSpec.pre6 enc Try.prog Try.f3 Rows.topCodedRow.domain false) (Rows.topCodedSpec.post enc Try.prog Try.f3 false true false false) :=
  law_leaving (C := Try.checked) own0 started (by kernel_rfl) Try.func3
    (ChangeSpec.witness6 (enc := enc) (C := Try.checked) false ⟨#[], #[.slice none 0 0, .int .u16 0], []⟩ 8 (by kernel_rfl) (by kernel_rfl) (by kernel_rfl) (by kernel_rfl))
    ok0 sp0_ok topCoded_law laid0 (by kernel_rfl) (by kernel_rfl) (rt := 4) rfl (by kernel_rfl) rfl (fun ds hl => by
      match ds, hl with
      | [d1, d2], _ => rfl)

theorem topCoded_holds : Rows.TopCodedSaid :=
  OpenClaim.holds_of_wide_leaving 3 Try.f3 rfl rfl rfl rfl rfl rfl rfl ⟨rfl, rfl, rfl, rfl, rfl⟩ rfl rfl rfl rfl rfl (by kernel_rfl) Try.func3 (by kernel_rfl)
    (of_decide_eq_true (by kernel_rfl)) (by unfold Func.isWrapper; first | (rw [if_pos (by decide +kernel)]; kernel_rfl) | (rw [if_neg (by decide +kernel)]; exact ⟨rfl, rfl⟩))
    (fun os started H enc _ => topCoded_lifted os started H enc)
end Go.Proofs.Yteblojfcalgoeaa
