/- Parts of the abstract machine and of its laws, joined. Conditions: none. -/
import Derived.Test.YteblojfcalgoeaaProg
import Derived.Test.YteblojfcalgoeaaQC
import Derived.KernelRfl
set_option linter.unusedVariables false
set_option linter.unusedSimpArgs false
/- Seat 1: alive answers true, whatever the world, and leaves what there was alone. Conditions: none. -/
namespace Go.Proofs.Yteblojfcalgoeaa
open Go Go.RowKit
noncomputable def E0 : Env := envOf Try.prog (leafOf Try.prog)
theorem mixed0 : Try.prog.follows .mixedOrders = true := by kernel_rfl
theorem ok0 : EnvT Try.prog E0 := envOf_leaf_ok mixed0
noncomputable def spA : FuncId → Option Spec := spDefer Try.prog E0 100000 68 105
theorem spA_ok : ∀ f s, spA f = some s → SpecAt Try.prog E0.size f s := spDefer_ok ok0
def retOf : Option Out → Option AV
  | some (.ret v _) => some v
  | _ => none
noncomputable def run0 (f : FuncId) (args : List AV) : Option AV := retOf (aCall E0 spA 100000 60 f args AH.empty)
theorem retOf_spec {o : Option Out} {v : AV} (h : retOf o = some v) : ∃ h, o = some (.ret v h) := by
  unfold retOf at h
  split at h
  · cases h; exact ⟨_, rfl⟩
  · cases h
theorem run0_closed {f : FuncId} {v : AV} (h : run0 f [] = some v) {u : Value} (hv : ∀ τ x, VR τ v x → x = u) (w : World) : Calls Try.prog f #[] w fun e w' => e = .returned u ∧ Below w.heap.size w w' := by
  obtain ⟨h', he⟩ := retOf_spec h
  exact CallAt.closed (call_sound ok0 spA_ok 60 f [] AH.empty _ he) w hv
end Go.Proofs.Yteblojfcalgoeaa
