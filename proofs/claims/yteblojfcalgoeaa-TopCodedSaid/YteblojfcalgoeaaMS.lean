/- Parts of the abstract machine and of its laws, joined. Conditions: none. -/
import Derived.Test.YteblojfcalgoeaaProg
import Derived.Test.YteblojfcalgoeaaMC
import Derived.KernelRfl
set_option linter.unusedVariables false
set_option linter.unusedSimpArgs false
/- Seat 1: alive answers true, whatever the world, and leaves what there was alone. Conditions: none. -/
namespace Go.Proofs.Yteblojfcalgoeaa
open Go Go.RowKit
noncomputable def E0 : Env := envOf Try.prog (leafOf Try.prog)
theorem mixed0 : Try.prog.follows .mixedOrders = true := by kernel_rfl
theorem ok0 : EnvT Try.prog E0 := envOf_leaf_ok mixed0
noncomputable def spA : FuncId → Option Spec := spDefer Try.prog E0 100000 68 105
theorem spA_ok : ∀ f s, spA f = some s → SpecAt Try.prog E0.size f s := spDefer_ok ok0
def retOf : Option Out → Option AV
  | some (.ret v _) => some v
  | _ => none
noncomputable def run0 (f : FuncId) (args : List AV) : Option AV := retOf (aCall E0 spA 100000 60 f args AH.empty)
theorem retOf_spec {o : Option Out} {v : AV} (h : retOf o = some v) : ∃ h, o = some (.ret v h) := by
  unfold retOf at h
  split at h
  · cases h; exact ⟨_, rfl⟩
  · cases h
theorem run0_closed {f : FuncId} {v : AV} (h : run0 f [] = some v) {u : Value} (hv : ∀ τ x, VR τ v x → x = u) (w : World) : Calls Try.prog f #[] w fun e w' => e = .returned u ∧ Below w.heap.size w w' := by
  obtain ⟨h', he⟩ := retOf_spec h
  exact CallAt.closed (call_sound ok0 spA_ok 60 f [] AH.empty _ he) w hv
end Go.Proofs.Yteblojfcalgoeaa

/- Seat 1: alive answers true. Conditions: none. -/
namespace Go.Proofs.Yteblojfcalgoeaa
open Go Go.RowKit
theorem alive_run : run0 37 [] = some (.bool true) := by kernel_rfl
theorem alive_calls (w : World) : Calls Try.prog 37 #[] w fun e w' => e = .returned (.bool true) ∧ Below w.heap.size w w' :=
  run0_closed alive_run (fun τ x h => by simpa only [VR] using h) w

/-- alive, as a function of its own: true, and nothing else. -/
def aliveSp : Spec := fun _ args h => match args with
  | [] => some (.ret (.bool true) h)
  | _ => none
theorem aliveSp_ok : SpecAt Try.prog E0.size 37 aliveSp := by
  intro K _ args h out he B W0 σ w vs r hv
  unfold aliveSp at he
  split at he
  case h_2 => cases he
  cases he
  have : vs = #[] := by
    simp only [VRL] at hv
    exact Array.toList_inj.1 (by simpa using hv)
  subst this
  refine (alive_calls w).mono fun e w' hr => ?_
  obtain ⟨rfl, hb⟩ := hr
  exact ⟨.bool true, σ, rfl, SE.refl σ, r.world hb, by simp only [VR]⟩
/-- The functions with contracts of their own. -/
noncomputable def sp0 : FuncId → Option Spec := fun f => bif Nat.beq f 37 then some aliveSp else spA f
theorem sp0_ok : ∀ f s, sp0 f = some s → SpecAt Try.prog E0.size f s := fun f s h => by
  unfold sp0 at h
  cases hb : Nat.beq f 37 with
  | true =>
    rw [hb] at h
    cases h
    have := Nat.eq_of_beq_eq_true hb
    subst this
    exact aliveSp_ok
  | false =>
    rw [hb] at h
    exact spA_ok f s h
theorem alive_a (n : Nat) (h : AH) : aCall E0 sp0 100000 (n + 1) 37 [] h = some (.ret (.bool true) h) := rfl
end Go.Proofs.Yteblojfcalgoeaa
