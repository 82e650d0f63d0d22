/- TopKeyed: for every input it answers true, and each argument reads behind the call as it read before. Conditions: none. -/
import Derived.Test.YteblojfcalgoeaaQZ
import Derived.Test.YteblojfcalgoeaaQE
import Derived.Test.YteblojfcalgoeaaRows
set_option linter.unusedVariables false
set_option linter.unusedSimpArgs false
/- TopKeyed: for every input it answers true, and each argument reads as it did. Conditions: none. -/
namespace Go.Proofs.Yteblojfcalgoeaa
open Go Go.RowKit
set_option maxRecDepth 100000
set_option linter.unusedSimpArgs false
set_option linter.unusedVariables false

/-- A slice of bytes that came in. -/
theorem bytes_of_has {h : AH} {avs : List AV} (hh : Has h (.sl (.int .u8)) avs) : ∃ v bs, avs = [v] ∧ v.atom = true ∧ BS h v bs := by
  simp only [Has] at hh
  obtain ⟨v, n, cs, rfl, ha, hg, hc⟩ := hh
  have hsz : (Sh.int IntKind.u8).size = 1 := rfl
  rw [hsz] at hg hc
  have hl := hg.len
  have key : ∀ (m : Nat) (cs : List AV), cs.length = m → (∀ j, j < m → ∃ x, (cs.drop (j * 1)).take 1 = [AV.int IntKind.u8 x] ∧ (Lit.int IntKind.u8 x).wf = true) → ∃ bs : List UInt8, bs.length = m ∧ cs = u8s bs := by
    intro m
    induction m with
    | zero => intro cs hl _; exact ⟨[], rfl, List.eq_nil_of_length_eq_zero hl⟩
    | succ m ih =>
      intro cs hl hc
      cases cs with
      | nil => simp at hl
      | cons c cs =>
        obtain ⟨x, h1, h2⟩ := hc 0 (by omega)
        simp at h1
        subst h1
        obtain ⟨bs, h3, rfl⟩ := ih cs (by simpa using hl) (fun j hj => by
          obtain ⟨x, a, b⟩ := hc (j + 1) (by omega)
          refine ⟨x, ?_, b⟩
          rw [Nat.mul_one] at a ⊢
          simpa using a)
        have hx : 0 ≤ x ∧ x < 256 := by
          simp [Lit.wf, IntKind.min, IntKind.max, IntKind.signed, IntKind.bits] at h2
          omega
        refine ⟨UInt8.ofNat x.toNat :: bs, by simp [h3], ?_⟩
        simp [u8s]
        omega
  obtain ⟨bs, h1, rfl⟩ := key n cs (by omega) hc
  refine ⟨v, bs, rfl, ha, ?_⟩
  cases v <;> simp only [GS] at hg <;> simp only [BS]
  case sl i o n' c l =>
    obtain ⟨⟨rfl, b⟩, _, c1, cs', t, m, c2, c3, c4⟩ := hg
    subst h1
    exact ⟨⟨rfl, b⟩, c1, cs', t, m, c2, by omega, by rw [Nat.mul_one] at c4; exact c4⟩
  case emp => exact List.eq_nil_of_length_eq_zero (by omega)
  case nils => exact List.eq_nil_of_length_eq_zero (by omega)

theorem keys_of_has {h : AH} {avs : List AV} (hh : Has h (.sl (.sl (.int .u8))) avs) : ∃ v ks, avs = [v] ∧ KeyS h v ks := by
  simp only [Has] at hh
  obtain ⟨v, n, cs, rfl, ha, hg, hc⟩ := hh
  have hsz : (Sh.sl (.int IntKind.u8)).size = 1 := rfl
  rw [hsz] at hg hc
  have hl := hg.len
  have hex : ∀ j, ∃ (x : List UInt8) (rv : AV), j < n → ((cs.drop (j * 1)).take 1 = [rv] ∧ BS h rv x) := fun j => by
    by_cases hj : j < n
    · have h1 := hc j hj
      have h2 : Has h (.sl (.int .u8)) ((cs.drop (j * 1)).take 1) := by simpa only [Has] using h1
      obtain ⟨rv, x, a, _, b⟩ := bytes_of_has h2
      exact ⟨x, rv, fun _ => ⟨a, b⟩⟩
    · exact ⟨[], .nils, fun h => absurd h hj⟩
  obtain ⟨fx, hfx⟩ := Classical.axiomOfChoice hex
  refine ⟨v, (List.range n).map fx, rfl, cs, by simpa using hg, fun j x hx => ?_⟩
  have hj : j < n := by have := (List.getElem?_eq_some_iff.1 hx).1; simpa using this
  simp [hj] at hx
  subst hx
  obtain ⟨rv, hrv⟩ := hfx j
  obtain ⟨a1, a2⟩ := hrv hj
  refine ⟨rv, ?_, a2⟩
  have : ((cs.drop (j * 1)).take 1)[0]? = some rv := by rw [a1]; rfl
  rw [List.getElem?_take, if_pos (by omega), List.getElem?_drop] at this
  simpa using this

theorem topKeyed_law : LawCon E0 sp6 100000 1 6 [.sl (.sl (.int .u8)), .sl (.int .u8), .str] := by
  intro h L hh
  match L, hh with
  | [a, b, c], hh =>
    obtain ⟨h1, h2, h3, _⟩ := hh
    obtain ⟨v, ks, rfl, hk⟩ := keys_of_has h1
    obtain ⟨pv, b0, rfl, _, hb⟩ := bytes_of_has h2
    simp only [Has] at h3
    obtain ⟨s, rfl, hs⟩ := h3
    exact topKeyed_con hk hb hs

theorem laid0 : laidOutB Try.prog = true := by kernel_rfl
theorem own0 : ownKnob Try.prog.godebug = none := by kernel_rfl

theorem topKeyed_lifted (os : Os) (started : os.Started) (H : Type) (enc : TypeId × Value → H) :
    ReturnsInLeavingWide {} Try.checked os 6 .any (Rows.topKeyedSpec.pre6 enc Try.prog Try.f6 Rows.topKeyedRow.domain false) (Rows.topKeyedSpec.post enc Try.prog Try.f6 false true false false) :=
  law_leaving (C := Try.checked) own0 started (by kernel_rfl) Try.func6
    (ChangeSpec.witness6 (enc := enc) (C := Try.checked) false ⟨#[], #[.slice none 0 0, .slice none 0 0, .string ⟨#[]⟩], []⟩ 8 (by kernel_rfl) (by kernel_rfl) (by kernel_rfl) (by kernel_rfl))
    ok0 sp6_ok topKeyed_law laid0 (by kernel_rfl) (by kernel_rfl) (rt := 4) rfl (by kernel_rfl) rfl (fun ds hl => by
      match ds, hl with
      | [d1, d2, d3], _ => rfl)

theorem topKeyed_holds : Rows.TopKeyedSaid :=
  OpenClaim.holds_of_wide_leaving 6 Try.f6 rfl rfl rfl rfl rfl rfl rfl ⟨rfl, rfl, rfl, rfl, rfl⟩ rfl rfl rfl rfl rfl (by kernel_rfl) Try.func6 (by kernel_rfl)
    (of_decide_eq_true (by kernel_rfl)) (by unfold Func.isWrapper; first | (rw [if_pos (by decide +kernel)]; kernel_rfl) | (rw [if_neg (by decide +kernel)]; exact ⟨rfl, rfl⟩))
    (fun os started H enc _ => topKeyed_lifted os started H enc)
end Go.Proofs.Yteblojfcalgoeaa
