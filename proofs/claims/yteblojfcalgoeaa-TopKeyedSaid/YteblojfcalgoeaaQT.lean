/- Parts of the abstract machine and of its laws, joined. Conditions: none. -/
import Derived.Test.YteblojfcalgoeaaQS
import Derived.Test.YteblojfcalgoeaaQU
import Derived.Test.YteblojfcalgoeaaQD
set_option linter.unusedVariables false
set_option linter.unusedSimpArgs false
/- Seat 1: the functions with contracts of their own: alive, Under. Conditions: none. -/
namespace Go.Proofs.Yteblojfcalgoeaa
open Go Go.RowKit
theorem alive_run : run0 37 [] = some (.bool true) := by kernel_rfl
theorem alive_calls (w : World) : Calls Try.prog 37 #[] w fun e w' => e = .returned (.bool true) ∧ Below w.heap.size w w' :=
  run0_closed alive_run (fun τ x h => by simpa only [VR] using h) w

/-- alive, as a function of its own: true, and nothing else. -/
def aliveSp : Spec := fun _ args h => match args with
  | [] => some (.ret (.bool true) h)
  | _ => none
theorem aliveSp_ok : SpecAt Try.prog E0.size 37 aliveSp := by
  intro K _ args h out he B W0 σ w vs r hv
  unfold aliveSp at he
  split at he
  case h_2 => cases he
  cases he
  have : vs = #[] := by
    simp only [VRL] at hv
    exact Array.toList_inj.1 (by simpa using hv)
  subst this
  refine (alive_calls w).mono fun e w' hr => ?_
  obtain ⟨rfl, hb⟩ := hr
  exact ⟨.bool true, σ, rfl, SE.refl σ, r.world hb, by simp only [VR]⟩
/-- The functions with contracts of their own. -/
noncomputable def sp0 : FuncId → Option Spec := fun f => bif Nat.beq f 37 then some aliveSp else bif Nat.beq f 61 then some underSp else spA f
theorem sp0_ok : ∀ f s, sp0 f = some s → SpecAt Try.prog E0.size f s := fun f s h => by
  unfold sp0 at h
  cases hb : Nat.beq f 37 with
  | true =>
    rw [hb] at h
    cases h
    have := Nat.eq_of_beq_eq_true hb
    subst this
    exact aliveSp_ok
  | false =>
    rw [hb] at h
    cases hc : Nat.beq f 61 with
    | true =>
      rw [hc] at h
      cases h
      have := Nat.eq_of_beq_eq_true hc
      subst this
      exact underSp_ok
    | false =>
      rw [hc] at h
      exact spA_ok f s h
theorem alive_a (n : Nat) (h : AH) : aCall E0 sp0 100000 (n + 1) 37 [] h = some (.ret (.bool true) h) := rfl
end Go.Proofs.Yteblojfcalgoeaa

/- Seat 1: what the tables say of the types and functions that are walked. Conditions: none. -/
namespace Go.Proofs.Yteblojfcalgoeaa
open Go Go.RowKit
theorem ty2 : (E0.ty 2).isSome = true := by kernel_rfl
theorem ty3 : (E0.ty 3).isSome = true := by kernel_rfl
theorem ty5 : (E0.ty 5).isSome = true := by kernel_rfl
theorem ty9 : (E0.ty 9).isSome = true := by kernel_rfl
theorem ty23 : (E0.ty 23).isSome = true := by kernel_rfl
theorem ty25 : (E0.ty 25).isSome = true := by kernel_rfl
theorem ty32 : (E0.ty 32).isSome = true := by kernel_rfl
theorem ty54 : (E0.ty 54).isSome = true := by kernel_rfl
theorem int2 : intT E0 2 = some .i64 := by kernel_rfl
theorem int3 : intT E0 3 = some .i64 := by kernel_rfl
theorem int5 : intT E0 5 = some .u8 := by kernel_rfl
theorem int23 : intT E0 23 = some .u16 := by kernel_rfl
theorem int25 : intT E0 25 = some .u64 := by kernel_rfl
theorem int32 : intT E0 32 = some .u32 := by kernel_rfl
theorem int39 : intT E0 39 = some .i64 := by kernel_rfl
theorem int54 : intT E0 54 = some .i8 := by kernel_rfl
@[go_sem] theorem conv_2_25 {h : AH} {k : IntKind} {n : Int} : aConvQ E0 h 2 25 (.int k n) = some (.int .u64 (IntKind.u64.wrap n)) := conv_int ty2 int25
@[go_sem] theorem conv_25_2 {h : AH} {k : IntKind} {n : Int} : aConvQ E0 h 25 2 (.int k n) = some (.int .i64 (IntKind.i64.wrap n)) := conv_int ty25 int2
@[go_sem] theorem conv_54_2 {h : AH} {k : IntKind} {n : Int} : aConvQ E0 h 54 2 (.int k n) = some (.int .i64 (IntKind.i64.wrap n)) := conv_int ty54 int2
@[go_sem] theorem conv_2_54 {h : AH} {k : IntKind} {n : Int} : aConvQ E0 h 2 54 (.int k n) = some (.int .i8 (IntKind.i8.wrap n)) := conv_int ty2 int54
@[go_sem] theorem conv_25_5 {h : AH} {k : IntKind} {n : Int} : aConvQ E0 h 25 5 (.int k n) = some (.int .u8 (IntKind.u8.wrap n)) := conv_int ty25 int5
@[go_sem] theorem conv_5_25 {h : AH} {k : IntKind} {n : Int} : aConvQ E0 h 5 25 (.int k n) = some (.int .u64 (IntKind.u64.wrap n)) := conv_int ty5 int25
@[go_sem] theorem conv_25_23 {h : AH} {k : IntKind} {n : Int} : aConvQ E0 h 25 23 (.int k n) = some (.int .u16 (IntKind.u16.wrap n)) := conv_int ty25 int23
@[go_sem] theorem conv_25_32 {h : AH} {k : IntKind} {n : Int} : aConvQ E0 h 25 32 (.int k n) = some (.int .u32 (IntKind.u32.wrap n)) := conv_int ty25 int32
@[go_sem] theorem conv_23_25 {h : AH} {k : IntKind} {n : Int} : aConvQ E0 h 23 25 (.int k n) = some (.int .u64 (IntKind.u64.wrap n)) := conv_int ty23 int25
@[go_sem] theorem conv_32_25 {h : AH} {k : IntKind} {n : Int} : aConvQ E0 h 32 25 (.int k n) = some (.int .u64 (IntKind.u64.wrap n)) := conv_int ty32 int25
@[go_sem] theorem conv_3_25 {h : AH} {k : IntKind} {n : Int} : aConvQ E0 h 3 25 (.int k n) = some (.int .u64 (IntKind.u64.wrap n)) := conv_int ty3 int25
@[go_sem] theorem conv_25_3 {h : AH} {k : IntKind} {n : Int} : aConvQ E0 h 25 3 (.int k n) = some (.int .i64 (IntKind.i64.wrap n)) := conv_int ty25 int3
@[go_sem] theorem conv_3_5 {h : AH} {k : IntKind} {n : Int} : aConvQ E0 h 3 5 (.int k n) = some (.int .u8 (IntKind.u8.wrap n)) := conv_int ty3 int5
@[go_sem] theorem conv_25_54 {h : AH} {k : IntKind} {n : Int} : aConvQ E0 h 25 54 (.int k n) = some (.int .i8 (IntKind.i8.wrap n)) := conv_int ty25 int54
@[go_sem] theorem conv_54_3 {h : AH} {k : IntKind} {n : Int} : aConvQ E0 h 54 3 (.int k n) = some (.int .i64 (IntKind.i64.wrap n)) := conv_int ty54 int3
@[go_sem] theorem conv_54_25 {h : AH} {k : IntKind} {n : Int} : aConvQ E0 h 54 25 (.int k n) = some (.int .u64 (IntKind.u64.wrap n)) := conv_int ty54 int25
theorem byte24 : byteT E0 24 5 = true := by kernel_rfl
theorem seq24 : seqT E0 24 = true := by kernel_rfl
theorem seq9 : seqT E0 9 = true := by kernel_rfl
theorem str9 : strT E0 9 = true := by kernel_rfl
theorem fn3 : E0.fn 3 = some Try.f3 := by kernel_rfl
@[go_sem] theorem call3 {K : Caller} {a b args : List AV} {h : AH} : callF E0 K (.fn (.func 3) a b) args h = callO (K 3 (a ++ args ++ b) h) := callF_func (by rw [fn3]; rfl)
theorem fn7 : E0.fn 7 = some Try.f7 := by kernel_rfl
@[go_sem] theorem call7 {K : Caller} {a b args : List AV} {h : AH} : callF E0 K (.fn (.func 7) a b) args h = callO (K 7 (a ++ args ++ b) h) := callF_func (by rw [fn7]; rfl)
theorem fn8 : E0.fn 8 = some Try.f8 := by kernel_rfl
@[go_sem] theorem call8 {K : Caller} {a b args : List AV} {h : AH} : callF E0 K (.fn (.func 8) a b) args h = callO (K 8 (a ++ args ++ b) h) := callF_func (by rw [fn8]; rfl)
theorem fn9 : E0.fn 9 = some Try.f9 := by kernel_rfl
@[go_sem] theorem call9 {K : Caller} {a b args : List AV} {h : AH} : callF E0 K (.fn (.func 9) a b) args h = callO (K 9 (a ++ args ++ b) h) := callF_func (by rw [fn9]; rfl)
theorem fn10 : E0.fn 10 = some Try.f10 := by kernel_rfl
@[go_sem] theorem call10 {K : Caller} {a b args : List AV} {h : AH} : callF E0 K (.fn (.func 10) a b) args h = callO (K 10 (a ++ args ++ b) h) := callF_func (by rw [fn10]; rfl)
theorem fn11 : E0.fn 11 = some Try.f11 := by kernel_rfl
@[go_sem] theorem call11 {K : Caller} {a b args : List AV} {h : AH} : callF E0 K (.fn (.func 11) a b) args h = callO (K 11 (a ++ args ++ b) h) := callF_func (by rw [fn11]; rfl)
theorem fn12 : E0.fn 12 = some Try.f12 := by kernel_rfl
@[go_sem] theorem call12 {K : Caller} {a b args : List AV} {h : AH} : callF E0 K (.fn (.func 12) a b) args h = callO (K 12 (a ++ args ++ b) h) := callF_func (by rw [fn12]; rfl)
theorem fn13 : E0.fn 13 = some Try.f13 := by kernel_rfl
@[go_sem] theorem call13 {K : Caller} {a b args : List AV} {h : AH} : callF E0 K (.fn (.func 13) a b) args h = callO (K 13 (a ++ args ++ b) h) := callF_func (by rw [fn13]; rfl)
theorem fn14 : E0.fn 14 = some Try.f14 := by kernel_rfl
@[go_sem] theorem call14 {K : Caller} {a b args : List AV} {h : AH} : callF E0 K (.fn (.func 14) a b) args h = callO (K 14 (a ++ args ++ b) h) := callF_func (by rw [fn14]; rfl)
theorem fn15 : E0.fn 15 = some Try.f15 := by kernel_rfl
@[go_sem] theorem call15 {K : Caller} {a b args : List AV} {h : AH} : callF E0 K (.fn (.func 15) a b) args h = callO (K 15 (a ++ args ++ b) h) := callF_func (by rw [fn15]; rfl)
theorem fn16 : E0.fn 16 = some Try.f16 := by kernel_rfl
@[go_sem] theorem call16 {K : Caller} {a b args : List AV} {h : AH} : callF E0 K (.fn (.func 16) a b) args h = callO (K 16 (a ++ args ++ b) h) := callF_func (by rw [fn16]; rfl)
theorem fn17 : E0.fn 17 = some Try.f17 := by kernel_rfl
@[go_sem] theorem call17 {K : Caller} {a b args : List AV} {h : AH} : callF E0 K (.fn (.func 17) a b) args h = callO (K 17 (a ++ args ++ b) h) := callF_func (by rw [fn17]; rfl)
theorem fn18 : E0.fn 18 = some Try.f18 := by kernel_rfl
@[go_sem] theorem call18 {K : Caller} {a b args : List AV} {h : AH} : callF E0 K (.fn (.func 18) a b) args h = callO (K 18 (a ++ args ++ b) h) := callF_func (by rw [fn18]; rfl)
theorem fn19 : E0.fn 19 = some Try.f19 := by kernel_rfl
@[go_sem] theorem call19 {K : Caller} {a b args : List AV} {h : AH} : callF E0 K (.fn (.func 19) a b) args h = callO (K 19 (a ++ args ++ b) h) := callF_func (by rw [fn19]; rfl)
theorem fn20 : E0.fn 20 = some Try.f20 := by kernel_rfl
@[go_sem] theorem call20 {K : Caller} {a b args : List AV} {h : AH} : callF E0 K (.fn (.func 20) a b) args h = callO (K 20 (a ++ args ++ b) h) := callF_func (by rw [fn20]; rfl)
theorem fn21 : E0.fn 21 = some Try.f21 := by kernel_rfl
@[go_sem] theorem call21 {K : Caller} {a b args : List AV} {h : AH} : callF E0 K (.fn (.func 21) a b) args h = callO (K 21 (a ++ args ++ b) h) := callF_func (by rw [fn21]; rfl)
theorem fn22 : E0.fn 22 = some Try.f22 := by kernel_rfl
@[go_sem] theorem call22 {K : Caller} {a b args : List AV} {h : AH} : callF E0 K (.fn (.func 22) a b) args h = callO (K 22 (a ++ args ++ b) h) := callF_func (by rw [fn22]; rfl)
theorem fn23 : E0.fn 23 = some Try.f23 := by kernel_rfl
@[go_sem] theorem call23 {K : Caller} {a b args : List AV} {h : AH} : callF E0 K (.fn (.func 23) a b) args h = callO (K 23 (a ++ args ++ b) h) := callF_func (by rw [fn23]; rfl)
theorem fn24 : E0.fn 24 = some Try.f24 := by kernel_rfl
@[go_sem] theorem call24 {K : Caller} {a b args : List AV} {h : AH} : callF E0 K (.fn (.func 24) a b) args h = callO (K 24 (a ++ args ++ b) h) := callF_func (by rw [fn24]; rfl)
theorem fn25 : E0.fn 25 = some Try.f25 := by kernel_rfl
@[go_sem] theorem call25 {K : Caller} {a b args : List AV} {h : AH} : callF E0 K (.fn (.func 25) a b) args h = callO (K 25 (a ++ args ++ b) h) := callF_func (by rw [fn25]; rfl)
theorem fn26 : E0.fn 26 = some Try.f26 := by kernel_rfl
@[go_sem] theorem call26 {K : Caller} {a b args : List AV} {h : AH} : callF E0 K (.fn (.func 26) a b) args h = callO (K 26 (a ++ args ++ b) h) := callF_func (by rw [fn26]; rfl)
theorem fn27 : E0.fn 27 = some Try.f27 := by kernel_rfl
@[go_sem] theorem call27 {K : Caller} {a b args : List AV} {h : AH} : callF E0 K (.fn (.func 27) a b) args h = callO (K 27 (a ++ args ++ b) h) := callF_func (by rw [fn27]; rfl)
theorem fn28 : E0.fn 28 = some Try.f28 := by kernel_rfl
@[go_sem] theorem call28 {K : Caller} {a b args : List AV} {h : AH} : callF E0 K (.fn (.func 28) a b) args h = callO (K 28 (a ++ args ++ b) h) := callF_func (by rw [fn28]; rfl)
theorem fn29 : E0.fn 29 = some Try.f29 := by kernel_rfl
@[go_sem] theorem call29 {K : Caller} {a b args : List AV} {h : AH} : callF E0 K (.fn (.func 29) a b) args h = callO (K 29 (a ++ args ++ b) h) := callF_func (by rw [fn29]; rfl)
theorem fn30 : E0.fn 30 = some Try.f30 := by kernel_rfl
@[go_sem] theorem call30 {K : Caller} {a b args : List AV} {h : AH} : callF E0 K (.fn (.func 30) a b) args h = callO (K 30 (a ++ args ++ b) h) := callF_func (by rw [fn30]; rfl)
theorem fn31 : E0.fn 31 = some Try.f31 := by kernel_rfl
@[go_sem] theorem call31 {K : Caller} {a b args : List AV} {h : AH} : callF E0 K (.fn (.func 31) a b) args h = callO (K 31 (a ++ args ++ b) h) := callF_func (by rw [fn31]; rfl)
theorem fn32 : E0.fn 32 = some Try.f32 := by kernel_rfl
@[go_sem] theorem call32 {K : Caller} {a b args : List AV} {h : AH} : callF E0 K (.fn (.func 32) a b) args h = callO (K 32 (a ++ args ++ b) h) := callF_func (by rw [fn32]; rfl)
theorem fn33 : E0.fn 33 = some Try.f33 := by kernel_rfl
@[go_sem] theorem call33 {K : Caller} {a b args : List AV} {h : AH} : callF E0 K (.fn (.func 33) a b) args h = callO (K 33 (a ++ args ++ b) h) := callF_func (by rw [fn33]; rfl)
theorem fn34 : E0.fn 34 = some Try.f34 := by kernel_rfl
@[go_sem] theorem call34 {K : Caller} {a b args : List AV} {h : AH} : callF E0 K (.fn (.func 34) a b) args h = callO (K 34 (a ++ args ++ b) h) := callF_func (by rw [fn34]; rfl)
theorem fn35 : E0.fn 35 = some Try.f35 := by kernel_rfl
@[go_sem] theorem call35 {K : Caller} {a b args : List AV} {h : AH} : callF E0 K (.fn (.func 35) a b) args h = callO (K 35 (a ++ args ++ b) h) := callF_func (by rw [fn35]; rfl)
theorem fn36 : E0.fn 36 = some Try.f36 := by kernel_rfl
@[go_sem] theorem call36 {K : Caller} {a b args : List AV} {h : AH} : callF E0 K (.fn (.func 36) a b) args h = callO (K 36 (a ++ args ++ b) h) := callF_func (by rw [fn36]; rfl)
theorem fn37 : E0.fn 37 = some Try.f37 := by kernel_rfl
@[go_sem] theorem call37 {K : Caller} {a b args : List AV} {h : AH} : callF E0 K (.fn (.func 37) a b) args h = callO (K 37 (a ++ args ++ b) h) := callF_func (by rw [fn37]; rfl)
theorem fn62 : E0.fn 62 = some Try.f62 := by kernel_rfl
@[go_sem] theorem call62 {K : Caller} {a b args : List AV} {h : AH} : callF E0 K (.fn (.func 62) a b) args h = callO (K 62 (a ++ args ++ b) h) := callF_func (by rw [fn62]; rfl)
theorem fn63 : E0.fn 63 = some Try.f63 := by kernel_rfl
@[go_sem] theorem call63 {K : Caller} {a b args : List AV} {h : AH} : callF E0 K (.fn (.func 63) a b) args h = callO (K 63 (a ++ args ++ b) h) := callF_func (by rw [fn63]; rfl)
theorem fn64 : E0.fn 64 = some Try.f64 := by kernel_rfl
@[go_sem] theorem call64 {K : Caller} {a b args : List AV} {h : AH} : callF E0 K (.fn (.func 64) a b) args h = callO (K 64 (a ++ args ++ b) h) := callF_func (by rw [fn64]; rfl)
theorem fn65 : E0.fn 65 = some Try.f65 := by kernel_rfl
@[go_sem] theorem call65 {K : Caller} {a b args : List AV} {h : AH} : callF E0 K (.fn (.func 65) a b) args h = callO (K 65 (a ++ args ++ b) h) := callF_func (by rw [fn65]; rfl)
theorem fn66 : E0.fn 66 = some Try.f66 := by kernel_rfl
@[go_sem] theorem call66 {K : Caller} {a b args : List AV} {h : AH} : callF E0 K (.fn (.func 66) a b) args h = callO (K 66 (a ++ args ++ b) h) := callF_func (by rw [fn66]; rfl)
theorem fn67 : E0.fn 67 = some Try.f67 := by kernel_rfl
@[go_sem] theorem call67 {K : Caller} {a b args : List AV} {h : AH} : callF E0 K (.fn (.func 67) a b) args h = callO (K 67 (a ++ args ++ b) h) := callF_func (by rw [fn67]; rfl)
theorem fn68 : E0.fn 68 = some Try.f68 := by kernel_rfl
@[go_sem] theorem call68 {K : Caller} {a b args : List AV} {h : AH} : callF E0 K (.fn (.func 68) a b) args h = callO (K 68 (a ++ args ++ b) h) := callF_func (by rw [fn68]; rfl)
theorem fn69 : E0.fn 69 = some Try.f69 := by kernel_rfl
@[go_sem] theorem call69 {K : Caller} {a b args : List AV} {h : AH} : callF E0 K (.fn (.func 69) a b) args h = callO (K 69 (a ++ args ++ b) h) := callF_func (by rw [fn69]; rfl)
theorem fn70 : E0.fn 70 = some Try.f70 := by kernel_rfl
@[go_sem] theorem call70 {K : Caller} {a b args : List AV} {h : AH} : callF E0 K (.fn (.func 70) a b) args h = callO (K 70 (a ++ args ++ b) h) := callF_func (by rw [fn70]; rfl)
theorem fn71 : E0.fn 71 = some Try.f71 := by kernel_rfl
@[go_sem] theorem call71 {K : Caller} {a b args : List AV} {h : AH} : callF E0 K (.fn (.func 71) a b) args h = callO (K 71 (a ++ args ++ b) h) := callF_func (by rw [fn71]; rfl)
theorem fn72 : E0.fn 72 = some Try.f72 := by kernel_rfl
@[go_sem] theorem call72 {K : Caller} {a b args : List AV} {h : AH} : callF E0 K (.fn (.func 72) a b) args h = callO (K 72 (a ++ args ++ b) h) := callF_func (by rw [fn72]; rfl)
theorem fn73 : E0.fn 73 = some Try.f73 := by kernel_rfl
@[go_sem] theorem call73 {K : Caller} {a b args : List AV} {h : AH} : callF E0 K (.fn (.func 73) a b) args h = callO (K 73 (a ++ args ++ b) h) := callF_func (by rw [fn73]; rfl)
theorem fn74 : E0.fn 74 = some Try.f74 := by kernel_rfl
@[go_sem] theorem call74 {K : Caller} {a b args : List AV} {h : AH} : callF E0 K (.fn (.func 74) a b) args h = callO (K 74 (a ++ args ++ b) h) := callF_func (by rw [fn74]; rfl)
theorem fn75 : E0.fn 75 = some Try.f75 := by kernel_rfl
@[go_sem] theorem call75 {K : Caller} {a b args : List AV} {h : AH} : callF E0 K (.fn (.func 75) a b) args h = callO (K 75 (a ++ args ++ b) h) := callF_func (by rw [fn75]; rfl)
theorem fn76 : E0.fn 76 = some Try.f76 := by kernel_rfl
@[go_sem] theorem call76 {K : Caller} {a b args : List AV} {h : AH} : callF E0 K (.fn (.func 76) a b) args h = callO (K 76 (a ++ args ++ b) h) := callF_func (by rw [fn76]; rfl)
theorem fn77 : E0.fn 77 = some Try.f77 := by kernel_rfl
@[go_sem] theorem call77 {K : Caller} {a b args : List AV} {h : AH} : callF E0 K (.fn (.func 77) a b) args h = callO (K 77 (a ++ args ++ b) h) := callF_func (by rw [fn77]; rfl)
theorem fn78 : E0.fn 78 = some Try.f78 := by kernel_rfl
@[go_sem] theorem call78 {K : Caller} {a b args : List AV} {h : AH} : callF E0 K (.fn (.func 78) a b) args h = callO (K 78 (a ++ args ++ b) h) := callF_func (by rw [fn78]; rfl)
theorem fn79 : E0.fn 79 = some Try.f79 := by kernel_rfl
@[go_sem] theorem call79 {K : Caller} {a b args : List AV} {h : AH} : callF E0 K (.fn (.func 79) a b) args h = callO (K 79 (a ++ args ++ b) h) := callF_func (by rw [fn79]; rfl)
theorem fn80 : E0.fn 80 = some Try.f80 := by kernel_rfl
@[go_sem] theorem call80 {K : Caller} {a b args : List AV} {h : AH} : callF E0 K (.fn (.func 80) a b) args h = callO (K 80 (a ++ args ++ b) h) := callF_func (by rw [fn80]; rfl)
theorem fn81 : E0.fn 81 = some Try.f81 := by kernel_rfl
@[go_sem] theorem call81 {K : Caller} {a b args : List AV} {h : AH} : callF E0 K (.fn (.func 81) a b) args h = callO (K 81 (a ++ args ++ b) h) := callF_func (by rw [fn81]; rfl)
theorem fn104 : E0.fn 104 = some Try.f104 := by kernel_rfl
@[go_sem] theorem call104 {K : Caller} {a b args : List AV} {h : AH} : callF E0 K (.fn (.func 104) a b) args h = callO (K 104 (a ++ args ++ b) h) := callF_func (by rw [fn104]; rfl)
theorem fn105 : E0.fn 105 = some Try.f105 := by kernel_rfl
@[go_sem] theorem call105 {K : Caller} {a b args : List AV} {h : AH} : callF E0 K (.fn (.func 105) a b) args h = callO (K 105 (a ++ args ++ b) h) := callF_func (by rw [fn105]; rfl)
end Go.Proofs.Yteblojfcalgoeaa

/- Seat 1: codec and its twins by hand: short forms. Conditions: none. -/
namespace Go.Proofs.Yteblojfcalgoeaa
open Go Go.RowKit
set_option maxRecDepth 100000
set_option linter.unusedSimpArgs false
set_option linter.unusedVariables false

/-- A number's short form. -/
def shortB (n : Nat) : List UInt8 := if n < 128 then [UInt8.ofNat n] else UInt8.ofNat (n % 128 + 128) :: shortB (n / 128)
termination_by n
decreasing_by omega

theorem build_byte {h : AH} {b : Int} : aBuildSlice E0 h 24 1 [(0, .int .u8 b)] = some (.sl h.next 0 1 1 false, h.push (.cells [.int .u8 b] 5 .own)) := by
  kernel_rfl
theorem bs_byte {h : AH} {b : Nat} (hb : b < 256) : BS (h.push (.cells [.int .u8 (b : Int)] 5 .own)) (.sl h.next 0 1 1 false) [UInt8.ofNat b] := by
  refine ⟨⟨rfl, by simp⟩, Nat.lt_succ_self _, _, _, _, by rw [get_push, if_pos rfl], by simp, ?_⟩
  simp [u8s, Nat.mod_eq_of_lt hb]

/-- A byte is built and appended. -/
theorem append_byte {h : AH} {v : AV} {bs : List UInt8} (ho : Own 5 h v bs) {b : Nat} (hb : b < 256) (hn : bs.length + 1 ≤ 140737488355328) :
    ∃ v' h', eBuiltin E0 (h.push (.cells [.int .u8 (b : Int)] 5 .own)) .append [v, .sl h.next 0 1 1 false] [24, 24] = some (v', h') ∧ Own 5 h' v' (bs ++ [UInt8.ofNat b]) ∧ Grew h h' v v' := by
  obtain ⟨v', h', h1, h2, h3⟩ := append_own byte24 seq24 (ho.keep (Keep.push h (.cells [.int .u8 (b : Int)] 5 .own)) (by simp)) (bs_byte (h := h) hb).news (by simpa using hn)
  exact ⟨v', h', h1, h2, h3.push⟩

theorem shortB_small {n : Nat} (h : n < 128) : shortB n = [UInt8.ofNat n] := by rw [shortB, if_pos h]
theorem shortB_big {n : Nat} (h : ¬ n < 128) : shortB n = UInt8.ofNat (n % 128 + 128) :: shortB (n / 128) := by rw [shortB, if_neg h]
theorem shortB_len : ∀ (k n : Nat), n < 128 ^ k → 0 < k → (shortB n).length ≤ k
  | 0, n, _, h => absurd h (Nat.lt_irrefl _)
  | k + 1, n, h, _ => by
      by_cases hn : n < 128
      · rw [shortB_small hn]; simp
      · rw [shortB_big hn]
        have : n / 128 < 128 ^ k := by
          rw [Nat.pow_succ] at h
          omega
        have hk : 0 < k := by
          cases k with
          | zero => simp at h; omega
          | succ k => omega
        have := shortB_len k (n / 128) this hk
        simp
        omega
theorem shortB_len10 {n : Nat} (h : n < 18446744073709551616) : (shortB n).length ≤ 10 := shortB_len 10 n (by omega) (by omega)
theorem shortB_pos (n : Nat) : 0 < (shortB n).length := by
  by_cases hn : n < 128
  · rw [shortB_small hn]; simp
  · rw [shortB_big hn]; simp

theorem short_con (x : Nat) (hx : x < 18446744073709551616) (v : AV) (bs : List UInt8) (h : AH) (ho : Own 5 h v bs) (hn : bs.length + 10 ≤ 140737488355328) :
    Con E0 sp0 100000 1 67 [v, .int .u64 x] h fun o => ∃ v' h', o = .ret v' h' ∧ Own 5 h' v' (bs ++ shortB x) ∧ Grew h h' v v' := by
  refine Con.of_body rfl fn67 fun n _ => ⟨rfl, ?_⟩
  conv in slim _ _ _ => cbv
  simp only [go_sem, reduceIte, Nat.reduceEqDiff, Nat.reduceAdd, Nat.reduceMul, Nat.reduceSub, Int.reduceLE, Int.reduceLT, Int.reduceNe, Int.reduceToNat, Int.reducePow, Int.reduceAdd, Int.reduceMul, reduceCtorEq, true_and, and_true, cond_true, cond_false, List.map_cons, List.map_nil, Option.map_some, Option.map_none, List.getElem?_cons_zero, List.getElem?_cons_succ, ne_eq, not_false_eq_true, List.nil_append, List.append_nil, List.cons_append, List.contains_cons, List.contains_nil, Nat.reduceBEq, Bool.or_false, Bool.false_or, Bool.true_or, Bool.or_true]
  have hl10 := shortB_len10 hx
  refine wLoop_inv (fun k fr h1 => ∃ y v1 bs1, k = (shortB y).length ∧ y < 18446744073709551616 ∧ fr 0 = v1 ∧ fr 1 = .int .u64 (y : Nat) ∧ Own 5 h1 v1 bs1 ∧ bs1 ++ shortB y = bs ++ shortB x ∧ Grew h h1 v v1) ?_ 100000 (shortB x).length _ _ (by omega) ⟨x, v, bs, rfl, hx, by simp only [go_sem, reduceIte, Nat.reduceEqDiff, Nat.reduceAdd, Nat.reduceMul, Nat.reduceSub, Int.reduceLE, Int.reduceLT, Int.reduceNe, Int.reduceToNat, Int.reducePow, Int.reduceAdd, Int.reduceMul, reduceCtorEq, true_and, and_true, cond_true, cond_false, List.map_cons, List.map_nil, Option.map_some, Option.map_none, List.getElem?_cons_zero, List.getElem?_cons_succ, ne_eq, not_false_eq_true, List.nil_append, List.append_nil, List.cons_append, List.contains_cons, List.contains_nil, Nat.reduceBEq, Bool.or_false, Bool.false_or, Bool.true_or, Bool.or_true], by simp only [go_sem, reduceIte, Nat.reduceEqDiff, Nat.reduceAdd, Nat.reduceMul, Nat.reduceSub, Int.reduceLE, Int.reduceLT, Int.reduceNe, Int.reduceToNat, Int.reducePow, Int.reduceAdd, Int.reduceMul, reduceCtorEq, true_and, and_true, cond_true, cond_false, List.map_cons, List.map_nil, Option.map_some, Option.map_none, List.getElem?_cons_zero, List.getElem?_cons_succ, ne_eq, not_false_eq_true, List.nil_append, List.append_nil, List.cons_append, List.contains_cons, List.contains_nil, Nat.reduceBEq, Bool.or_false, Bool.false_or, Bool.true_or, Bool.or_true], ho, rfl, Grew.refl h v⟩
  rintro k fr h1 ⟨y, v1, bs1, rfl, hy, h0, hf1, ho1, hb1, hg1⟩
  have hlen := congrArg List.length hb1
  simp only [List.length_append] at hlen
  have hpos := shortB_pos y
  simp only [go_sem, reduceIte, Nat.reduceEqDiff, Nat.reduceAdd, Nat.reduceMul, Nat.reduceSub, Int.reduceLE, Int.reduceLT, Int.reduceNe, Int.reduceToNat, Int.reducePow, Int.reduceAdd, Int.reduceMul, reduceCtorEq, true_and, and_true, cond_true, cond_false, List.map_cons, List.map_nil, Option.map_some, Option.map_none, List.getElem?_cons_zero, List.getElem?_cons_succ, ne_eq, not_false_eq_true, List.nil_append, List.append_nil, List.cons_append, List.contains_cons, List.contains_nil, Nat.reduceBEq, Bool.or_false, Bool.false_or, Bool.true_or, Bool.or_true, h0, hf1]
  refine condK_intro (fun hc => ?_) (fun hc => ?_)
  · have hc : ¬ y < 128 := by have := of_decide_eq_true hc; omega
    rw [shortB_big hc] at hb1 hlen
    simp only [List.length_cons] at hlen
    have e1 : y % 256 % 128 = y % 128 := by omega
    obtain ⟨v2, h2, e2, ho2, hg2⟩ := append_byte (b := y % 128 + 128) ho1 (by omega) (by omega)
    simp only [go_sem, reduceIte, Nat.reduceEqDiff, Nat.reduceAdd, Nat.reduceMul, Nat.reduceSub, Int.reduceLE, Int.reduceLT, Int.reduceNe, Int.reduceToNat, Int.reducePow, Int.reduceAdd, Int.reduceMul, reduceCtorEq, true_and, and_true, cond_true, cond_false, List.map_cons, List.map_nil, Option.map_some, Option.map_none, List.getElem?_cons_zero, List.getElem?_cons_succ, ne_eq, not_false_eq_true, List.nil_append, List.append_nil, List.cons_append, List.contains_cons, List.contains_nil, Nat.reduceBEq, Bool.or_false, Bool.false_or, Bool.true_or, Bool.or_true, h0, hf1, w_u8, or128 _ (Nat.mod_lt y (by decide : 0 < 256)), e1, build_byte, e2, shr_nat]
    exact ⟨(shortB (y / 128)).length, by rw [shortB_big hc]; simp, y / 128, v2, _, rfl, by omega, rfl, rfl, ho2, by rw [List.append_assoc]; exact hb1, hg1.trans hg2⟩
  · have hc : y < 128 := by have := of_decide_eq_false hc; omega
    rw [shortB_small hc] at hb1 hlen
    obtain ⟨v2, h2, e2, ho2, hg2⟩ := append_byte (b := y) ho1 (by omega) (by simp at hlen; omega)
    simp only [go_sem, reduceIte, Nat.reduceEqDiff, Nat.reduceAdd, Nat.reduceMul, Nat.reduceSub, Int.reduceLE, Int.reduceLT, Int.reduceNe, Int.reduceToNat, Int.reducePow, Int.reduceAdd, Int.reduceMul, reduceCtorEq, true_and, and_true, cond_true, cond_false, List.map_cons, List.map_nil, Option.map_some, Option.map_none, List.getElem?_cons_zero, List.getElem?_cons_succ, ne_eq, not_false_eq_true, List.nil_append, List.append_nil, List.cons_append, List.contains_cons, List.contains_nil, Nat.reduceBEq, Bool.or_false, Bool.false_or, Bool.true_or, Bool.or_true, h0, hf1, w_u8_in _ (show y < 256 by omega), build_byte, e2, aResults_one (F := Try.f67) rfl]
    exact ⟨_, _, rfl, by rw [← hb1]; exact ho2, hg1.trans hg2⟩

theorem short30_con (x : Nat) (hx : x < 18446744073709551616) (h : AH) :
    Con E0 sp0 100000 1 13 [.int .u64 x] h fun o => ∃ v' h', o = .ret v' h' ∧ Own 5 h' v' (shortB x) ∧ Grew h h' .nils v' := by
  refine Con.of_body rfl fn13 fun n _ => ⟨rfl, ?_⟩
  conv in slim _ _ _ => cbv
  simp only [go_sem, reduceIte, Nat.reduceEqDiff, Nat.reduceAdd, Nat.reduceMul, Nat.reduceSub, Int.reduceLE, Int.reduceLT, Int.reduceNe, Int.reduceToNat, Int.reducePow, Int.reduceAdd, Int.reduceMul, reduceCtorEq, true_and, and_true, cond_true, cond_false, List.map_cons, List.map_nil, Option.map_some, Option.map_none, List.getElem?_cons_zero, List.getElem?_cons_succ, ne_eq, not_false_eq_true, List.nil_append, List.append_nil, List.cons_append, List.contains_cons, List.contains_nil, Nat.reduceBEq, Bool.or_false, Bool.false_or, Bool.true_or, Bool.or_true]
  have hl10 := shortB_len10 hx
  refine wLoop_inv (fun k fr h1 => ∃ y v1 bs1, k = (shortB y).length ∧ y < 18446744073709551616 ∧ fr 3 = v1 ∧ fr 0 = .int .u64 (y : Nat) ∧ Own 5 h1 v1 bs1 ∧ bs1 ++ shortB y = shortB x ∧ Grew h h1 .nils v1) ?_ 100000 (shortB x).length _ _ (by omega) ⟨x, .nils, [], rfl, hx, by simp only [go_sem, reduceIte, Nat.reduceEqDiff, Nat.reduceAdd, Nat.reduceMul, Nat.reduceSub, Int.reduceLE, Int.reduceLT, Int.reduceNe, Int.reduceToNat, Int.reducePow, Int.reduceAdd, Int.reduceMul, reduceCtorEq, true_and, and_true, cond_true, cond_false, List.map_cons, List.map_nil, Option.map_some, Option.map_none, List.getElem?_cons_zero, List.getElem?_cons_succ, ne_eq, not_false_eq_true, List.nil_append, List.append_nil, List.cons_append, List.contains_cons, List.contains_nil, Nat.reduceBEq, Bool.or_false, Bool.false_or, Bool.true_or, Bool.or_true], by simp only [go_sem, reduceIte, Nat.reduceEqDiff, Nat.reduceAdd, Nat.reduceMul, Nat.reduceSub, Int.reduceLE, Int.reduceLT, Int.reduceNe, Int.reduceToNat, Int.reducePow, Int.reduceAdd, Int.reduceMul, reduceCtorEq, true_and, and_true, cond_true, cond_false, List.map_cons, List.map_nil, Option.map_some, Option.map_none, List.getElem?_cons_zero, List.getElem?_cons_succ, ne_eq, not_false_eq_true, List.nil_append, List.append_nil, List.cons_append, List.contains_cons, List.contains_nil, Nat.reduceBEq, Bool.or_false, Bool.false_or, Bool.true_or, Bool.or_true], .inl ⟨rfl, rfl⟩, rfl, Grew.refl h .nils⟩
  rintro k fr h1 ⟨y, v1, bs1, rfl, hy, h0, hf1, ho1, hb1, hg1⟩
  have hlen := congrArg List.length hb1
  simp only [List.length_append] at hlen
  have hpos := shortB_pos y
  simp only [go_sem, reduceIte, Nat.reduceEqDiff, Nat.reduceAdd, Nat.reduceMul, Nat.reduceSub, Int.reduceLE, Int.reduceLT, Int.reduceNe, Int.reduceToNat, Int.reducePow, Int.reduceAdd, Int.reduceMul, reduceCtorEq, true_and, and_true, cond_true, cond_false, List.map_cons, List.map_nil, Option.map_some, Option.map_none, List.getElem?_cons_zero, List.getElem?_cons_succ, ne_eq, not_false_eq_true, List.nil_append, List.append_nil, List.cons_append, List.contains_cons, List.contains_nil, Nat.reduceBEq, Bool.or_false, Bool.false_or, Bool.true_or, Bool.or_true, h0, hf1]
  refine condK_intro (fun hc => ?_) (fun hc => ?_)
  · have hc : ¬ y < 128 := by have := of_decide_eq_true hc; omega
    rw [shortB_big hc] at hb1 hlen
    simp only [List.length_cons] at hlen
    have e1 : y % 256 % 128 = y % 128 := by omega
    obtain ⟨v2, h2, e2, ho2, hg2⟩ := append_byte (b := y % 128 + 128) ho1 (by omega) (by omega)
    simp only [go_sem, reduceIte, Nat.reduceEqDiff, Nat.reduceAdd, Nat.reduceMul, Nat.reduceSub, Int.reduceLE, Int.reduceLT, Int.reduceNe, Int.reduceToNat, Int.reducePow, Int.reduceAdd, Int.reduceMul, reduceCtorEq, true_and, and_true, cond_true, cond_false, List.map_cons, List.map_nil, Option.map_some, Option.map_none, List.getElem?_cons_zero, List.getElem?_cons_succ, ne_eq, not_false_eq_true, List.nil_append, List.append_nil, List.cons_append, List.contains_cons, List.contains_nil, Nat.reduceBEq, Bool.or_false, Bool.false_or, Bool.true_or, Bool.or_true, h0, hf1, w_u8, or128 _ (Nat.mod_lt y (by decide : 0 < 256)), e1, build_byte, e2, shr_nat]
    exact ⟨(shortB (y / 128)).length, by rw [shortB_big hc]; simp, y / 128, v2, _, rfl, by omega, rfl, rfl, ho2, by rw [List.append_assoc]; exact hb1, hg1.trans hg2⟩
  · have hc : y < 128 := by have := of_decide_eq_false hc; omega
    rw [shortB_small hc] at hb1 hlen
    obtain ⟨v2, h2, e2, ho2, hg2⟩ := append_byte (b := y) ho1 (by omega) (by simp at hlen; omega)
    simp only [go_sem, reduceIte, Nat.reduceEqDiff, Nat.reduceAdd, Nat.reduceMul, Nat.reduceSub, Int.reduceLE, Int.reduceLT, Int.reduceNe, Int.reduceToNat, Int.reducePow, Int.reduceAdd, Int.reduceMul, reduceCtorEq, true_and, and_true, cond_true, cond_false, List.map_cons, List.map_nil, Option.map_some, Option.map_none, List.getElem?_cons_zero, List.getElem?_cons_succ, ne_eq, not_false_eq_true, List.nil_append, List.append_nil, List.cons_append, List.contains_cons, List.contains_nil, Nat.reduceBEq, Bool.or_false, Bool.false_or, Bool.true_or, Bool.or_true, h0, hf1, w_u8_in _ (show y < 256 by omega), build_byte, e2, aResults_one (F := Try.f13) rfl]
    exact ⟨_, _, rfl, by rw [← hb1]; exact ho2, hg1.trans hg2⟩
end Go.Proofs.Yteblojfcalgoeaa

/- Seat 1: codec's puts and their twins by hand. Conditions: none. -/
namespace Go.Proofs.Yteblojfcalgoeaa
open Go Go.RowKit
set_option maxRecDepth 100000
set_option linter.unusedSimpArgs false
set_option linter.unusedVariables false

/-- The lowest k bytes of a number, the lowest first. -/
def leB : Nat → Nat → List UInt8
  | 0, _ => []
  | k + 1, n => UInt8.ofNat (n % 256) :: leB k (n / 256)
theorem leB_length : ∀ k n, (leB k n).length = k
  | 0, _ => rfl
  | k + 1, n => by simp [leB, leB_length k]
theorem leB_succ : ∀ (k n : Nat), leB (k + 1) n = leB k n ++ [UInt8.ofNat (n / 2 ^ (8 * k) % 256)]
  | 0, n => by simp [leB]
  | k + 1, n => by
      have e : n / 256 / 2 ^ (8 * k) = n / 2 ^ (8 * (k + 1)) := by
        rw [Nat.div_div_eq_div_mul]
        congr 1
        rw [show 8 * (k + 1) = 8 + 8 * k by omega, Nat.pow_add]
      rw [leB, leB_succ k (n / 256), e]
      rfl

theorem eqn_nils {t : TypeId} (ht : sliceT E0 t = true) : aBin E0 .eql t .nils .nils = some (.bool true) := by
  unfold sliceT at ht
  split at ht
  case h_2 => cases ht
  rename_i ti e1
  split at ht
  case h_2 => cases ht
  rename_i e2
  simp [aBin, aEq, e1, e2]
theorem eqn_sl {t : TypeId} (ht : sliceT E0 t = true) {i o n c : Nat} {l : Bool} : aBin E0 .eql t (.sl i o n c l) .nils = some (.bool false) := by
  unfold sliceT at ht
  split at ht
  case h_2 => cases ht
  rename_i ti e1
  split at ht
  case h_2 => cases ht
  rename_i e2
  simp [aBin, aEq, e1, e2]
theorem eqn_emp {t : TypeId} (ht : sliceT E0 t = true) : aBin E0 .eql t .emp .nils = some (.bool false) := by
  unfold sliceT at ht
  split at ht
  case h_2 => cases ht
  rename_i ti e1
  split at ht
  case h_2 => cases ht
  rename_i e2
  simp [aBin, aEq, e1, e2]
theorem slice24 : sliceT E0 24 = true := by kernel_rfl

theorem build_none {h : AH} : aBuildSlice E0 h 24 0 [] = some (.sl h.next 0 0 0 false, h.push (.cells [] 5 .own)) := by kernel_rfl
theorem own_none {h : AH} : Own 5 (h.push (.cells [] 5 .own)) (.sl h.next 0 0 0 false) [] :=
  .inr ⟨h.next, Nat.lt_succ_self _, .inl ⟨rfl, by rw [get_push, if_pos rfl]; rfl⟩⟩

theorem Grew.fresh0 {h h' : AH} {i o n c : Nat} {l : Bool} {o' : AO} {v' : AV} (hi : i = h.next) (g : Grew (h.push o') h' (.sl i o n c l) v') : Grew h h' .nils v' := by
  subst hi
  exact ⟨((Keep.push h o').trans g.keep).mono (by intro j hj hlt; simp [ids] at hj; omega), fun j hj => by
    rcases g.fresh j hj with h1 | h1
    · simp [ids] at h1; exact .inr (by omega)
    · exact .inr (Nat.le_of_succ_le h1)⟩

theorem clone_con (v : AV) (bs : List UInt8) (h : AH) (hb : BS h v bs) (hn : bs.length ≤ 140737488355328) :
    Con E0 sp0 100000 1 62 [v] h fun o => ∃ v' h', o = .ret v' h' ∧ Own 5 h' v' bs ∧ Grew h h' .nils v' := by
  refine Con.of_body rfl fn62 fun n _ => ⟨rfl, ?_⟩
  conv in slim _ _ _ => cbv
  have k1 := Keep.push h (.cells [] 5 .own)
  obtain ⟨v2, h2, e2, ho2, hg2⟩ := append_own byte24 seq24 (own_none (h := h)) (hb.keep k1 (by simp)).news (by simpa using hn)
  have hv : (v = .nils ∧ bs = []) ∨ aBin E0 .eql 24 v .nils = some (.bool false) := by
    cases v <;> simp only [BS] at hb
    · exact .inr (eqn_sl slice24)
    · exact .inr (eqn_emp slice24)
    · exact .inl ⟨rfl, hb⟩
  rcases hv with ⟨rfl, rfl⟩ | hv
  · simp only [go_sem, reduceIte, Nat.reduceEqDiff, Nat.reduceAdd, Nat.reduceMul, Nat.reduceSub, Int.reduceLE, Int.reduceLT, Int.reduceNe, Int.reduceToNat, Int.reducePow, Int.reduceAdd, Int.reduceMul, reduceCtorEq, true_and, and_true, cond_true, cond_false, List.map_cons, List.map_nil, Option.map_some, Option.map_none, List.getElem?_cons_zero, List.getElem?_cons_succ, ne_eq, not_false_eq_true, List.nil_append, List.append_nil, List.cons_append, List.contains_cons, List.contains_nil, Nat.reduceBEq, Bool.or_false, Bool.false_or, Bool.true_or, Bool.or_true, eqn_nils slice24, aResults_one (F := Try.f62) rfl]
    exact ⟨_, _, rfl, .inl ⟨rfl, rfl⟩, Grew.refl _ _⟩
  · simp only [go_sem, reduceIte, Nat.reduceEqDiff, Nat.reduceAdd, Nat.reduceMul, Nat.reduceSub, Int.reduceLE, Int.reduceLT, Int.reduceNe, Int.reduceToNat, Int.reducePow, Int.reduceAdd, Int.reduceMul, reduceCtorEq, true_and, and_true, cond_true, cond_false, List.map_cons, List.map_nil, Option.map_some, Option.map_none, List.getElem?_cons_zero, List.getElem?_cons_succ, ne_eq, not_false_eq_true, List.nil_append, List.append_nil, List.cons_append, List.contains_cons, List.contains_nil, Nat.reduceBEq, Bool.or_false, Bool.false_or, Bool.true_or, Bool.or_true, hv, build_none, e2, aResults_one (F := Try.f62) rfl]
    exact ⟨_, _, rfl, ho2, hg2.fresh0 rfl⟩

theorem w_mul8 {i : Nat} (hi : i ≤ 8) : IntKind.i64.wrap (8 * (i : Int)) = ((8 * i : Nat) : Int) := by rw [wrap_i64 (by omega)]; norm_cast
theorem w_inc {i : Nat} (hi : i ≤ 1000000000) : IntKind.i64.wrap ((i : Int) + 1) = ((i + 1 : Nat) : Int) := by rw [wrap_i64 (by omega)]; norm_cast

theorem eight30_con (x : Nat) (hx : x < 18446744073709551616) (h : AH) :
    Con E0 sp0 100000 1 8 [.int .u64 x] h fun o => ∃ v' h', o = .ret v' h' ∧ Own 5 h' v' (leB 8 x) ∧ Grew h h' .nils v' := by
  refine Con.of_body rfl fn8 fun n _ => ⟨rfl, ?_⟩
  conv in slim _ _ _ => cbv
  simp only [go_sem, reduceIte, Nat.reduceEqDiff, Nat.reduceAdd, Nat.reduceMul, Nat.reduceSub, Int.reduceLE, Int.reduceLT, Int.reduceNe, Int.reduceToNat, Int.reducePow, Int.reduceAdd, Int.reduceMul, reduceCtorEq, true_and, and_true, cond_true, cond_false, List.map_cons, List.map_nil, Option.map_some, Option.map_none, List.getElem?_cons_zero, List.getElem?_cons_succ, ne_eq, not_false_eq_true, List.nil_append, List.append_nil, List.cons_append, List.contains_cons, List.contains_nil, Nat.reduceBEq, Bool.or_false, Bool.false_or, Bool.true_or, Bool.or_true]
  refine wLoop_inv (fun k fr h1 => ∃ i v1, k = 8 - i ∧ i ≤ 8 ∧ fr 0 = .int .u64 (x : Nat) ∧ fr 3 = v1 ∧ fr 5 = .int .i64 (i : Nat) ∧ Own 5 h1 v1 (leB i x) ∧ Grew h h1 .nils v1) ?_ 100000 8 _ _ (by omega) ⟨0, .nils, rfl, by omega, by simp only [go_sem, reduceIte, Nat.reduceEqDiff, Nat.reduceAdd, Nat.reduceMul, Nat.reduceSub, Int.reduceLE, Int.reduceLT, Int.reduceNe, Int.reduceToNat, Int.reducePow, Int.reduceAdd, Int.reduceMul, reduceCtorEq, true_and, and_true, cond_true, cond_false, List.map_cons, List.map_nil, Option.map_some, Option.map_none, List.getElem?_cons_zero, List.getElem?_cons_succ, ne_eq, not_false_eq_true, List.nil_append, List.append_nil, List.cons_append, List.contains_cons, List.contains_nil, Nat.reduceBEq, Bool.or_false, Bool.false_or, Bool.true_or, Bool.or_true], by simp only [go_sem, reduceIte, Nat.reduceEqDiff, Nat.reduceAdd, Nat.reduceMul, Nat.reduceSub, Int.reduceLE, Int.reduceLT, Int.reduceNe, Int.reduceToNat, Int.reducePow, Int.reduceAdd, Int.reduceMul, reduceCtorEq, true_and, and_true, cond_true, cond_false, List.map_cons, List.map_nil, Option.map_some, Option.map_none, List.getElem?_cons_zero, List.getElem?_cons_succ, ne_eq, not_false_eq_true, List.nil_append, List.append_nil, List.cons_append, List.contains_cons, List.contains_nil, Nat.reduceBEq, Bool.or_false, Bool.false_or, Bool.true_or, Bool.or_true], by simp only [go_sem, reduceIte, Nat.reduceEqDiff, Nat.reduceAdd, Nat.reduceMul, Nat.reduceSub, Int.reduceLE, Int.reduceLT, Int.reduceNe, Int.reduceToNat, Int.reducePow, Int.reduceAdd, Int.reduceMul, reduceCtorEq, true_and, and_true, cond_true, cond_false, List.map_cons, List.map_nil, Option.map_some, Option.map_none, List.getElem?_cons_zero, List.getElem?_cons_succ, ne_eq, not_false_eq_true, List.nil_append, List.append_nil, List.cons_append, List.contains_cons, List.contains_nil, Nat.reduceBEq, Bool.or_false, Bool.false_or, Bool.true_or, Bool.or_true]; rfl, .inl ⟨rfl, rfl⟩, Grew.refl h .nils⟩
  rintro k fr h1 ⟨i, v1, rfl, hi, h0, h3, h5, ho1, hg1⟩
  simp only [go_sem, reduceIte, Nat.reduceEqDiff, Nat.reduceAdd, Nat.reduceMul, Nat.reduceSub, Int.reduceLE, Int.reduceLT, Int.reduceNe, Int.reduceToNat, Int.reducePow, Int.reduceAdd, Int.reduceMul, reduceCtorEq, true_and, and_true, cond_true, cond_false, List.map_cons, List.map_nil, Option.map_some, Option.map_none, List.getElem?_cons_zero, List.getElem?_cons_succ, ne_eq, not_false_eq_true, List.nil_append, List.append_nil, List.cons_append, List.contains_cons, List.contains_nil, Nat.reduceBEq, Bool.or_false, Bool.false_or, Bool.true_or, Bool.or_true, h0, h3, h5]
  refine condK_intro (fun hc => ?_) (fun hc => ?_)
  · have hc : i < 8 := by have := of_decide_eq_true hc; omega
    obtain ⟨v2, h2, e2, ho2, hg2⟩ := append_byte (b := x / 2 ^ (8 * i) % 256) ho1 (by omega) (by rw [leB_length]; omega)
    have em : min (8 * i) 64 = 8 * i := by omega
    simp only [go_sem, reduceIte, Nat.reduceEqDiff, Nat.reduceAdd, Nat.reduceMul, Nat.reduceSub, Int.reduceLE, Int.reduceLT, Int.reduceNe, Int.reduceToNat, Int.reducePow, Int.reduceAdd, Int.reduceMul, reduceCtorEq, true_and, and_true, cond_true, cond_false, List.map_cons, List.map_nil, Option.map_some, Option.map_none, List.getElem?_cons_zero, List.getElem?_cons_succ, ne_eq, not_false_eq_true, List.nil_append, List.append_nil, List.cons_append, List.contains_cons, List.contains_nil, Nat.reduceBEq, Bool.or_false, Bool.false_or, Bool.true_or, Bool.or_true, h0, h3, h5, w_mul8 hi, Int.natCast_nonneg, Int.toNat_natCast, em, shr_nat, w_u8, build_byte, e2, w_inc (show i ≤ 1000000000 by omega)]
    exact ⟨8 - (i + 1), by omega, i + 1, v2, rfl, by omega, rfl, rfl, by rw [leB_succ]; exact ho2, hg1.trans hg2⟩
  · have hc : i = 8 := by have := of_decide_eq_false hc; omega
    subst hc
    simp only [go_sem, reduceIte, Nat.reduceEqDiff, Nat.reduceAdd, Nat.reduceMul, Nat.reduceSub, Int.reduceLE, Int.reduceLT, Int.reduceNe, Int.reduceToNat, Int.reducePow, Int.reduceAdd, Int.reduceMul, reduceCtorEq, true_and, and_true, cond_true, cond_false, List.map_cons, List.map_nil, Option.map_some, Option.map_none, List.getElem?_cons_zero, List.getElem?_cons_succ, ne_eq, not_false_eq_true, List.nil_append, List.append_nil, List.cons_append, List.contains_cons, List.contains_nil, Nat.reduceBEq, Bool.or_false, Bool.false_or, Bool.true_or, Bool.or_true, h0, h3, h5, aResults_one (F := Try.f8) rfl]
    exact ⟨_, _, rfl, ho1, hg1⟩

theorem width8 (n : Nat) (h : AH) : aCall E0 sp0 100000 (n + 2) 63 [] h = some (.ret (.int .i64 1) h) := by kernel_rfl
theorem width16 (n : Nat) (h : AH) : aCall E0 sp0 100000 (n + 2) 64 [] h = some (.ret (.int .i64 2) h) := by kernel_rfl
theorem width32 (n : Nat) (h : AH) : aCall E0 sp0 100000 (n + 2) 65 [] h = some (.ret (.int .i64 4) h) := by kernel_rfl
theorem width64 (n : Nat) (h : AH) : aCall E0 sp0 100000 (n + 2) 66 [] h = some (.ret (.int .i64 8) h) := by kernel_rfl

theorem put8_con (x : Nat) (hx : x < 256) (v : AV) (bs : List UInt8) (h : AH) (hb : BS h v bs) (hn : bs.length + 10 ≤ 140737488355328) :
    Con E0 sp0 100000 3 7 [v, .int .u8 x] h fun o => ∃ v' h', o = .ret v' h' ∧ Own 5 h' v' (bs ++ leB 1 x) ∧ Grew h h' .nils v' := by
  refine Con.of_body rfl fn7 fun n hn2 => ⟨rfl, ?_⟩
  obtain ⟨n, rfl⟩ : ∃ k, n = k + 2 := ⟨n - 2, by omega⟩
  conv in slim _ _ _ => cbv
  obtain ⟨_, e1, v0, h0, rfl, ho0, hg0⟩ := clone_con v bs h hb (by omega) (n + 2) (by omega)
  simp only [go_sem, reduceIte, Nat.reduceEqDiff, Nat.reduceAdd, Nat.reduceMul, Nat.reduceSub, Int.reduceLE, Int.reduceLT, Int.reduceNe, Int.reduceToNat, Int.reducePow, Int.reduceAdd, Int.reduceMul, reduceCtorEq, true_and, and_true, cond_true, cond_false, List.map_cons, List.map_nil, Option.map_some, Option.map_none, List.getElem?_cons_zero, List.getElem?_cons_succ, ne_eq, not_false_eq_true, List.nil_append, List.append_nil, List.cons_append, List.contains_cons, List.contains_nil, Nat.reduceBEq, Bool.or_false, Bool.false_or, Bool.true_or, Bool.or_true, e1, width8]
  refine wLoop_inv (fun k fr h1 => ∃ i v1, k = 1 - i ∧ i ≤ 1 ∧ fr 1 = .int .u8 (x : Nat) ∧ fr 5 = v1 ∧ fr 9 = .int .i64 1 ∧ fr 10 = .int .i64 (i : Nat) ∧ Own 5 h1 v1 (bs ++ leB i x) ∧ Grew h h1 .nils v1) ?_ 100000 1 _ _ (by omega) ⟨0, v0, rfl, by omega, by simp only [go_sem, reduceIte, Nat.reduceEqDiff, Nat.reduceAdd, Nat.reduceMul, Nat.reduceSub, Int.reduceLE, Int.reduceLT, Int.reduceNe, Int.reduceToNat, Int.reducePow, Int.reduceAdd, Int.reduceMul, reduceCtorEq, true_and, and_true, cond_true, cond_false, List.map_cons, List.map_nil, Option.map_some, Option.map_none, List.getElem?_cons_zero, List.getElem?_cons_succ, ne_eq, not_false_eq_true, List.nil_append, List.append_nil, List.cons_append, List.contains_cons, List.contains_nil, Nat.reduceBEq, Bool.or_false, Bool.false_or, Bool.true_or, Bool.or_true], by simp only [go_sem, reduceIte, Nat.reduceEqDiff, Nat.reduceAdd, Nat.reduceMul, Nat.reduceSub, Int.reduceLE, Int.reduceLT, Int.reduceNe, Int.reduceToNat, Int.reducePow, Int.reduceAdd, Int.reduceMul, reduceCtorEq, true_and, and_true, cond_true, cond_false, List.map_cons, List.map_nil, Option.map_some, Option.map_none, List.getElem?_cons_zero, List.getElem?_cons_succ, ne_eq, not_false_eq_true, List.nil_append, List.append_nil, List.cons_append, List.contains_cons, List.contains_nil, Nat.reduceBEq, Bool.or_false, Bool.false_or, Bool.true_or, Bool.or_true], by simp only [go_sem, reduceIte, Nat.reduceEqDiff, Nat.reduceAdd, Nat.reduceMul, Nat.reduceSub, Int.reduceLE, Int.reduceLT, Int.reduceNe, Int.reduceToNat, Int.reducePow, Int.reduceAdd, Int.reduceMul, reduceCtorEq, true_and, and_true, cond_true, cond_false, List.map_cons, List.map_nil, Option.map_some, Option.map_none, List.getElem?_cons_zero, List.getElem?_cons_succ, ne_eq, not_false_eq_true, List.nil_append, List.append_nil, List.cons_append, List.contains_cons, List.contains_nil, Nat.reduceBEq, Bool.or_false, Bool.false_or, Bool.true_or, Bool.or_true], by simp only [go_sem, reduceIte, Nat.reduceEqDiff, Nat.reduceAdd, Nat.reduceMul, Nat.reduceSub, Int.reduceLE, Int.reduceLT, Int.reduceNe, Int.reduceToNat, Int.reducePow, Int.reduceAdd, Int.reduceMul, reduceCtorEq, true_and, and_true, cond_true, cond_false, List.map_cons, List.map_nil, Option.map_some, Option.map_none, List.getElem?_cons_zero, List.getElem?_cons_succ, ne_eq, not_false_eq_true, List.nil_append, List.append_nil, List.cons_append, List.contains_cons, List.contains_nil, Nat.reduceBEq, Bool.or_false, Bool.false_or, Bool.true_or, Bool.or_true]; rfl, by simpa [leB] using ho0, hg0⟩
  rintro k fr h1 ⟨i, v1, rfl, hi, hf1, hf5, hf9, hf10, ho1, hg1⟩
  simp only [go_sem, reduceIte, Nat.reduceEqDiff, Nat.reduceAdd, Nat.reduceMul, Nat.reduceSub, Int.reduceLE, Int.reduceLT, Int.reduceNe, Int.reduceToNat, Int.reducePow, Int.reduceAdd, Int.reduceMul, reduceCtorEq, true_and, and_true, cond_true, cond_false, List.map_cons, List.map_nil, Option.map_some, Option.map_none, List.getElem?_cons_zero, List.getElem?_cons_succ, ne_eq, not_false_eq_true, List.nil_append, List.append_nil, List.cons_append, List.contains_cons, List.contains_nil, Nat.reduceBEq, Bool.or_false, Bool.false_or, Bool.true_or, Bool.or_true, hf1, hf5, hf9, hf10]
  refine condK_intro (fun hc => ?_) (fun hc => ?_)
  · have hc : i < 1 := by have := of_decide_eq_true hc; omega
    obtain ⟨v2, h2, e2, ho2, hg2⟩ := append_byte (b := x / 2 ^ (8 * i) % 256) ho1 (by omega) (by rw [List.length_append, leB_length]; omega)
    have em : min (8 * i) 64 = 8 * i := by omega
    simp only [go_sem, reduceIte, Nat.reduceEqDiff, Nat.reduceAdd, Nat.reduceMul, Nat.reduceSub, Int.reduceLE, Int.reduceLT, Int.reduceNe, Int.reduceToNat, Int.reducePow, Int.reduceAdd, Int.reduceMul, reduceCtorEq, true_and, and_true, cond_true, cond_false, List.map_cons, List.map_nil, Option.map_some, Option.map_none, List.getElem?_cons_zero, List.getElem?_cons_succ, ne_eq, not_false_eq_true, List.nil_append, List.append_nil, List.cons_append, List.contains_cons, List.contains_nil, Nat.reduceBEq, Bool.or_false, Bool.false_or, Bool.true_or, Bool.or_true, hf1, hf5, hf9, hf10, w_mul8 (show i ≤ 8 by omega), Int.natCast_nonneg, Int.toNat_natCast, em, shr_nat, w_u8, w_u64_in x (by omega), build_byte, e2, w_inc (show i ≤ 1000000000 by omega)]
    exact ⟨1 - (i + 1), by omega, i + 1, v2, rfl, by omega, rfl, rfl, by rw [leB_succ, ← List.append_assoc]; exact ho2, hg1.trans hg2⟩
  · have hc : i = 1 := by have := of_decide_eq_false hc; omega
    subst hc
    simp only [go_sem, reduceIte, Nat.reduceEqDiff, Nat.reduceAdd, Nat.reduceMul, Nat.reduceSub, Int.reduceLE, Int.reduceLT, Int.reduceNe, Int.reduceToNat, Int.reducePow, Int.reduceAdd, Int.reduceMul, reduceCtorEq, true_and, and_true, cond_true, cond_false, List.map_cons, List.map_nil, Option.map_some, Option.map_none, List.getElem?_cons_zero, List.getElem?_cons_succ, ne_eq, not_false_eq_true, List.nil_append, List.append_nil, List.cons_append, List.contains_cons, List.contains_nil, Nat.reduceBEq, Bool.or_false, Bool.false_or, Bool.true_or, Bool.or_true, hf1, hf5, hf9, hf10, aResults_one (F := Try.f7) rfl]
    exact ⟨_, _, rfl, ho1, hg1⟩
-- END PUT8
theorem put16_con (x : Nat) (hx : x < 65536) (v : AV) (bs : List UInt8) (h : AH) (hb : BS h v bs) (hn : bs.length + 10 ≤ 140737488355328) :
    Con E0 sp0 100000 3 9 [v, .int .u16 x] h fun o => ∃ v' h', o = .ret v' h' ∧ Own 5 h' v' (bs ++ leB 2 x) ∧ Grew h h' .nils v' := by
  refine Con.of_body rfl fn9 fun n hn2 => ⟨rfl, ?_⟩
  obtain ⟨n, rfl⟩ : ∃ k, n = k + 2 := ⟨n - 2, by omega⟩
  conv in slim _ _ _ => cbv
  obtain ⟨_, e1, v0, h0, rfl, ho0, hg0⟩ := clone_con v bs h hb (by omega) (n + 2) (by omega)
  simp only [go_sem, reduceIte, Nat.reduceEqDiff, Nat.reduceAdd, Nat.reduceMul, Nat.reduceSub, Int.reduceLE, Int.reduceLT, Int.reduceNe, Int.reduceToNat, Int.reducePow, Int.reduceAdd, Int.reduceMul, reduceCtorEq, true_and, and_true, cond_true, cond_false, List.map_cons, List.map_nil, Option.map_some, Option.map_none, List.getElem?_cons_zero, List.getElem?_cons_succ, ne_eq, not_false_eq_true, List.nil_append, List.append_nil, List.cons_append, List.contains_cons, List.contains_nil, Nat.reduceBEq, Bool.or_false, Bool.false_or, Bool.true_or, Bool.or_true, e1, width16]
  refine wLoop_inv (fun k fr h1 => ∃ i v1, k = 2 - i ∧ i ≤ 2 ∧ fr 1 = .int .u16 (x : Nat) ∧ fr 5 = v1 ∧ fr 9 = .int .i64 2 ∧ fr 10 = .int .i64 (i : Nat) ∧ Own 5 h1 v1 (bs ++ leB i x) ∧ Grew h h1 .nils v1) ?_ 100000 2 _ _ (by omega) ⟨0, v0, rfl, by omega, by simp only [go_sem, reduceIte, Nat.reduceEqDiff, Nat.reduceAdd, Nat.reduceMul, Nat.reduceSub, Int.reduceLE, Int.reduceLT, Int.reduceNe, Int.reduceToNat, Int.reducePow, Int.reduceAdd, Int.reduceMul, reduceCtorEq, true_and, and_true, cond_true, cond_false, List.map_cons, List.map_nil, Option.map_some, Option.map_none, List.getElem?_cons_zero, List.getElem?_cons_succ, ne_eq, not_false_eq_true, List.nil_append, List.append_nil, List.cons_append, List.contains_cons, List.contains_nil, Nat.reduceBEq, Bool.or_false, Bool.false_or, Bool.true_or, Bool.or_true], by simp only [go_sem, reduceIte, Nat.reduceEqDiff, Nat.reduceAdd, Nat.reduceMul, Nat.reduceSub, Int.reduceLE, Int.reduceLT, Int.reduceNe, Int.reduceToNat, Int.reducePow, Int.reduceAdd, Int.reduceMul, reduceCtorEq, true_and, and_true, cond_true, cond_false, List.map_cons, List.map_nil, Option.map_some, Option.map_none, List.getElem?_cons_zero, List.getElem?_cons_succ, ne_eq, not_false_eq_true, List.nil_append, List.append_nil, List.cons_append, List.contains_cons, List.contains_nil, Nat.reduceBEq, Bool.or_false, Bool.false_or, Bool.true_or, Bool.or_true], by simp only [go_sem, reduceIte, Nat.reduceEqDiff, Nat.reduceAdd, Nat.reduceMul, Nat.reduceSub, Int.reduceLE, Int.reduceLT, Int.reduceNe, Int.reduceToNat, Int.reducePow, Int.reduceAdd, Int.reduceMul, reduceCtorEq, true_and, and_true, cond_true, cond_false, List.map_cons, List.map_nil, Option.map_some, Option.map_none, List.getElem?_cons_zero, List.getElem?_cons_succ, ne_eq, not_false_eq_true, List.nil_append, List.append_nil, List.cons_append, List.contains_cons, List.contains_nil, Nat.reduceBEq, Bool.or_false, Bool.false_or, Bool.true_or, Bool.or_true], by simp only [go_sem, reduceIte, Nat.reduceEqDiff, Nat.reduceAdd, Nat.reduceMul, Nat.reduceSub, Int.reduceLE, Int.reduceLT, Int.reduceNe, Int.reduceToNat, Int.reducePow, Int.reduceAdd, Int.reduceMul, reduceCtorEq, true_and, and_true, cond_true, cond_false, List.map_cons, List.map_nil, Option.map_some, Option.map_none, List.getElem?_cons_zero, List.getElem?_cons_succ, ne_eq, not_false_eq_true, List.nil_append, List.append_nil, List.cons_append, List.contains_cons, List.contains_nil, Nat.reduceBEq, Bool.or_false, Bool.false_or, Bool.true_or, Bool.or_true]; rfl, by simpa [leB] using ho0, hg0⟩
  rintro k fr h1 ⟨i, v1, rfl, hi, hf1, hf5, hf9, hf10, ho1, hg1⟩
  simp only [go_sem, reduceIte, Nat.reduceEqDiff, Nat.reduceAdd, Nat.reduceMul, Nat.reduceSub, Int.reduceLE, Int.reduceLT, Int.reduceNe, Int.reduceToNat, Int.reducePow, Int.reduceAdd, Int.reduceMul, reduceCtorEq, true_and, and_true, cond_true, cond_false, List.map_cons, List.map_nil, Option.map_some, Option.map_none, List.getElem?_cons_zero, List.getElem?_cons_succ, ne_eq, not_false_eq_true, List.nil_append, List.append_nil, List.cons_append, List.contains_cons, List.contains_nil, Nat.reduceBEq, Bool.or_false, Bool.false_or, Bool.true_or, Bool.or_true, hf1, hf5, hf9, hf10]
  refine condK_intro (fun hc => ?_) (fun hc => ?_)
  · have hc : i < 2 := by have := of_decide_eq_true hc; omega
    obtain ⟨v2, h2, e2, ho2, hg2⟩ := append_byte (b := x / 2 ^ (8 * i) % 256) ho1 (by omega) (by rw [List.length_append, leB_length]; omega)
    have em : min (8 * i) 64 = 8 * i := by omega
    simp only [go_sem, reduceIte, Nat.reduceEqDiff, Nat.reduceAdd, Nat.reduceMul, Nat.reduceSub, Int.reduceLE, Int.reduceLT, Int.reduceNe, Int.reduceToNat, Int.reducePow, Int.reduceAdd, Int.reduceMul, reduceCtorEq, true_and, and_true, cond_true, cond_false, List.map_cons, List.map_nil, Option.map_some, Option.map_none, List.getElem?_cons_zero, List.getElem?_cons_succ, ne_eq, not_false_eq_true, List.nil_append, List.append_nil, List.cons_append, List.contains_cons, List.contains_nil, Nat.reduceBEq, Bool.or_false, Bool.false_or, Bool.true_or, Bool.or_true, hf1, hf5, hf9, hf10, w_mul8 (show i ≤ 8 by omega), Int.natCast_nonneg, Int.toNat_natCast, em, shr_nat, w_u8, w_u64_in x (by omega), build_byte, e2, w_inc (show i ≤ 1000000000 by omega)]
    exact ⟨2 - (i + 1), by omega, i + 1, v2, rfl, by omega, rfl, rfl, by rw [leB_succ, ← List.append_assoc]; exact ho2, hg1.trans hg2⟩
  · have hc : i = 2 := by have := of_decide_eq_false hc; omega
    subst hc
    simp only [go_sem, reduceIte, Nat.reduceEqDiff, Nat.reduceAdd, Nat.reduceMul, Nat.reduceSub, Int.reduceLE, Int.reduceLT, Int.reduceNe, Int.reduceToNat, Int.reducePow, Int.reduceAdd, Int.reduceMul, reduceCtorEq, true_and, and_true, cond_true, cond_false, List.map_cons, List.map_nil, Option.map_some, Option.map_none, List.getElem?_cons_zero, List.getElem?_cons_succ, ne_eq, not_false_eq_true, List.nil_append, List.append_nil, List.cons_append, List.contains_cons, List.contains_nil, Nat.reduceBEq, Bool.or_false, Bool.false_or, Bool.true_or, Bool.or_true, hf1, hf5, hf9, hf10, aResults_one (F := Try.f9) rfl]
    exact ⟨_, _, rfl, ho1, hg1⟩
theorem put32_con (x : Nat) (hx : x < 4294967296) (v : AV) (bs : List UInt8) (h : AH) (hb : BS h v bs) (hn : bs.length + 10 ≤ 140737488355328) :
    Con E0 sp0 100000 3 10 [v, .int .u32 x] h fun o => ∃ v' h', o = .ret v' h' ∧ Own 5 h' v' (bs ++ leB 4 x) ∧ Grew h h' .nils v' := by
  refine Con.of_body rfl fn10 fun n hn2 => ⟨rfl, ?_⟩
  obtain ⟨n, rfl⟩ : ∃ k, n = k + 2 := ⟨n - 2, by omega⟩
  conv in slim _ _ _ => cbv
  obtain ⟨_, e1, v0, h0, rfl, ho0, hg0⟩ := clone_con v bs h hb (by omega) (n + 2) (by omega)
  simp only [go_sem, reduceIte, Nat.reduceEqDiff, Nat.reduceAdd, Nat.reduceMul, Nat.reduceSub, Int.reduceLE, Int.reduceLT, Int.reduceNe, Int.reduceToNat, Int.reducePow, Int.reduceAdd, Int.reduceMul, reduceCtorEq, true_and, and_true, cond_true, cond_false, List.map_cons, List.map_nil, Option.map_some, Option.map_none, List.getElem?_cons_zero, List.getElem?_cons_succ, ne_eq, not_false_eq_true, List.nil_append, List.append_nil, List.cons_append, List.contains_cons, List.contains_nil, Nat.reduceBEq, Bool.or_false, Bool.false_or, Bool.true_or, Bool.or_true, e1, width32]
  refine wLoop_inv (fun k fr h1 => ∃ i v1, k = 4 - i ∧ i ≤ 4 ∧ fr 1 = .int .u32 (x : Nat) ∧ fr 5 = v1 ∧ fr 9 = .int .i64 4 ∧ fr 10 = .int .i64 (i : Nat) ∧ Own 5 h1 v1 (bs ++ leB i x) ∧ Grew h h1 .nils v1) ?_ 100000 4 _ _ (by omega) ⟨0, v0, rfl, by omega, by simp only [go_sem, reduceIte, Nat.reduceEqDiff, Nat.reduceAdd, Nat.reduceMul, Nat.reduceSub, Int.reduceLE, Int.reduceLT, Int.reduceNe, Int.reduceToNat, Int.reducePow, Int.reduceAdd, Int.reduceMul, reduceCtorEq, true_and, and_true, cond_true, cond_false, List.map_cons, List.map_nil, Option.map_some, Option.map_none, List.getElem?_cons_zero, List.getElem?_cons_succ, ne_eq, not_false_eq_true, List.nil_append, List.append_nil, List.cons_append, List.contains_cons, List.contains_nil, Nat.reduceBEq, Bool.or_false, Bool.false_or, Bool.true_or, Bool.or_true], by simp only [go_sem, reduceIte, Nat.reduceEqDiff, Nat.reduceAdd, Nat.reduceMul, Nat.reduceSub, Int.reduceLE, Int.reduceLT, Int.reduceNe, Int.reduceToNat, Int.reducePow, Int.reduceAdd, Int.reduceMul, reduceCtorEq, true_and, and_true, cond_true, cond_false, List.map_cons, List.map_nil, Option.map_some, Option.map_none, List.getElem?_cons_zero, List.getElem?_cons_succ, ne_eq, not_false_eq_true, List.nil_append, List.append_nil, List.cons_append, List.contains_cons, List.contains_nil, Nat.reduceBEq, Bool.or_false, Bool.false_or, Bool.true_or, Bool.or_true], by simp only [go_sem, reduceIte, Nat.reduceEqDiff, Nat.reduceAdd, Nat.reduceMul, Nat.reduceSub, Int.reduceLE, Int.reduceLT, Int.reduceNe, Int.reduceToNat, Int.reducePow, Int.reduceAdd, Int.reduceMul, reduceCtorEq, true_and, and_true, cond_true, cond_false, List.map_cons, List.map_nil, Option.map_some, Option.map_none, List.getElem?_cons_zero, List.getElem?_cons_succ, ne_eq, not_false_eq_true, List.nil_append, List.append_nil, List.cons_append, List.contains_cons, List.contains_nil, Nat.reduceBEq, Bool.or_false, Bool.false_or, Bool.true_or, Bool.or_true], by simp only [go_sem, reduceIte, Nat.reduceEqDiff, Nat.reduceAdd, Nat.reduceMul, Nat.reduceSub, Int.reduceLE, Int.reduceLT, Int.reduceNe, Int.reduceToNat, Int.reducePow, Int.reduceAdd, Int.reduceMul, reduceCtorEq, true_and, and_true, cond_true, cond_false, List.map_cons, List.map_nil, Option.map_some, Option.map_none, List.getElem?_cons_zero, List.getElem?_cons_succ, ne_eq, not_false_eq_true, List.nil_append, List.append_nil, List.cons_append, List.contains_cons, List.contains_nil, Nat.reduceBEq, Bool.or_false, Bool.false_or, Bool.true_or, Bool.or_true]; rfl, by simpa [leB] using ho0, hg0⟩
  rintro k fr h1 ⟨i, v1, rfl, hi, hf1, hf5, hf9, hf10, ho1, hg1⟩
  simp only [go_sem, reduceIte, Nat.reduceEqDiff, Nat.reduceAdd, Nat.reduceMul, Nat.reduceSub, Int.reduceLE, Int.reduceLT, Int.reduceNe, Int.reduceToNat, Int.reducePow, Int.reduceAdd, Int.reduceMul, reduceCtorEq, true_and, and_true, cond_true, cond_false, List.map_cons, List.map_nil, Option.map_some, Option.map_none, List.getElem?_cons_zero, List.getElem?_cons_succ, ne_eq, not_false_eq_true, List.nil_append, List.append_nil, List.cons_append, List.contains_cons, List.contains_nil, Nat.reduceBEq, Bool.or_false, Bool.false_or, Bool.true_or, Bool.or_true, hf1, hf5, hf9, hf10]
  refine condK_intro (fun hc => ?_) (fun hc => ?_)
  · have hc : i < 4 := by have := of_decide_eq_true hc; omega
    obtain ⟨v2, h2, e2, ho2, hg2⟩ := append_byte (b := x / 2 ^ (8 * i) % 256) ho1 (by omega) (by rw [List.length_append, leB_length]; omega)
    have em : min (8 * i) 64 = 8 * i := by omega
    simp only [go_sem, reduceIte, Nat.reduceEqDiff, Nat.reduceAdd, Nat.reduceMul, Nat.reduceSub, Int.reduceLE, Int.reduceLT, Int.reduceNe, Int.reduceToNat, Int.reducePow, Int.reduceAdd, Int.reduceMul, reduceCtorEq, true_and, and_true, cond_true, cond_false, List.map_cons, List.map_nil, Option.map_some, Option.map_none, List.getElem?_cons_zero, List.getElem?_cons_succ, ne_eq, not_false_eq_true, List.nil_append, List.append_nil, List.cons_append, List.contains_cons, List.contains_nil, Nat.reduceBEq, Bool.or_false, Bool.false_or, Bool.true_or, Bool.or_true, hf1, hf5, hf9, hf10, w_mul8 (show i ≤ 8 by omega), Int.natCast_nonneg, Int.toNat_natCast, em, shr_nat, w_u8, w_u64_in x (by omega), build_byte, e2, w_inc (show i ≤ 1000000000 by omega)]
    exact ⟨4 - (i + 1), by omega, i + 1, v2, rfl, by omega, rfl, rfl, by rw [leB_succ, ← List.append_assoc]; exact ho2, hg1.trans hg2⟩
  · have hc : i = 4 := by have := of_decide_eq_false hc; omega
    subst hc
    simp only [go_sem, reduceIte, Nat.reduceEqDiff, Nat.reduceAdd, Nat.reduceMul, Nat.reduceSub, Int.reduceLE, Int.reduceLT, Int.reduceNe, Int.reduceToNat, Int.reducePow, Int.reduceAdd, Int.reduceMul, reduceCtorEq, true_and, and_true, cond_true, cond_false, List.map_cons, List.map_nil, Option.map_some, Option.map_none, List.getElem?_cons_zero, List.getElem?_cons_succ, ne_eq, not_false_eq_true, List.nil_append, List.append_nil, List.cons_append, List.contains_cons, List.contains_nil, Nat.reduceBEq, Bool.or_false, Bool.false_or, Bool.true_or, Bool.or_true, hf1, hf5, hf9, hf10, aResults_one (F := Try.f10) rfl]
    exact ⟨_, _, rfl, ho1, hg1⟩
theorem put64_con (x : Nat) (hx : x < 18446744073709551616) (v : AV) (bs : List UInt8) (h : AH) (hb : BS h v bs) (hn : bs.length + 10 ≤ 140737488355328) :
    Con E0 sp0 100000 3 11 [v, .int .u64 x] h fun o => ∃ v' h', o = .ret v' h' ∧ Own 5 h' v' (bs ++ leB 8 x) ∧ Grew h h' .nils v' := by
  refine Con.of_body rfl fn11 fun n hn2 => ⟨rfl, ?_⟩
  obtain ⟨n, rfl⟩ : ∃ k, n = k + 2 := ⟨n - 2, by omega⟩
  conv in slim _ _ _ => cbv
  obtain ⟨_, e1, v0, h0, rfl, ho0, hg0⟩ := clone_con v bs h hb (by omega) (n + 2) (by omega)
  simp only [go_sem, reduceIte, Nat.reduceEqDiff, Nat.reduceAdd, Nat.reduceMul, Nat.reduceSub, Int.reduceLE, Int.reduceLT, Int.reduceNe, Int.reduceToNat, Int.reducePow, Int.reduceAdd, Int.reduceMul, reduceCtorEq, true_and, and_true, cond_true, cond_false, List.map_cons, List.map_nil, Option.map_some, Option.map_none, List.getElem?_cons_zero, List.getElem?_cons_succ, ne_eq, not_false_eq_true, List.nil_append, List.append_nil, List.cons_append, List.contains_cons, List.contains_nil, Nat.reduceBEq, Bool.or_false, Bool.false_or, Bool.true_or, Bool.or_true, e1, width64]
  refine wLoop_inv (fun k fr h1 => ∃ i v1, k = 8 - i ∧ i ≤ 8 ∧ fr 1 = .int .u64 (x : Nat) ∧ fr 5 = v1 ∧ fr 9 = .int .i64 8 ∧ fr 10 = .int .i64 (i : Nat) ∧ Own 5 h1 v1 (bs ++ leB i x) ∧ Grew h h1 .nils v1) ?_ 100000 8 _ _ (by omega) ⟨0, v0, rfl, by omega, by simp only [go_sem, reduceIte, Nat.reduceEqDiff, Nat.reduceAdd, Nat.reduceMul, Nat.reduceSub, Int.reduceLE, Int.reduceLT, Int.reduceNe, Int.reduceToNat, Int.reducePow, Int.reduceAdd, Int.reduceMul, reduceCtorEq, true_and, and_true, cond_true, cond_false, List.map_cons, List.map_nil, Option.map_some, Option.map_none, List.getElem?_cons_zero, List.getElem?_cons_succ, ne_eq, not_false_eq_true, List.nil_append, List.append_nil, List.cons_append, List.contains_cons, List.contains_nil, Nat.reduceBEq, Bool.or_false, Bool.false_or, Bool.true_or, Bool.or_true], by simp only [go_sem, reduceIte, Nat.reduceEqDiff, Nat.reduceAdd, Nat.reduceMul, Nat.reduceSub, Int.reduceLE, Int.reduceLT, Int.reduceNe, Int.reduceToNat, Int.reducePow, Int.reduceAdd, Int.reduceMul, reduceCtorEq, true_and, and_true, cond_true, cond_false, List.map_cons, List.map_nil, Option.map_some, Option.map_none, List.getElem?_cons_zero, List.getElem?_cons_succ, ne_eq, not_false_eq_true, List.nil_append, List.append_nil, List.cons_append, List.contains_cons, List.contains_nil, Nat.reduceBEq, Bool.or_false, Bool.false_or, Bool.true_or, Bool.or_true], by simp only [go_sem, reduceIte, Nat.reduceEqDiff, Nat.reduceAdd, Nat.reduceMul, Nat.reduceSub, Int.reduceLE, Int.reduceLT, Int.reduceNe, Int.reduceToNat, Int.reducePow, Int.reduceAdd, Int.reduceMul, reduceCtorEq, true_and, and_true, cond_true, cond_false, List.map_cons, List.map_nil, Option.map_some, Option.map_none, List.getElem?_cons_zero, List.getElem?_cons_succ, ne_eq, not_false_eq_true, List.nil_append, List.append_nil, List.cons_append, List.contains_cons, List.contains_nil, Nat.reduceBEq, Bool.or_false, Bool.false_or, Bool.true_or, Bool.or_true], by simp only [go_sem, reduceIte, Nat.reduceEqDiff, Nat.reduceAdd, Nat.reduceMul, Nat.reduceSub, Int.reduceLE, Int.reduceLT, Int.reduceNe, Int.reduceToNat, Int.reducePow, Int.reduceAdd, Int.reduceMul, reduceCtorEq, true_and, and_true, cond_true, cond_false, List.map_cons, List.map_nil, Option.map_some, Option.map_none, List.getElem?_cons_zero, List.getElem?_cons_succ, ne_eq, not_false_eq_true, List.nil_append, List.append_nil, List.cons_append, List.contains_cons, List.contains_nil, Nat.reduceBEq, Bool.or_false, Bool.false_or, Bool.true_or, Bool.or_true]; rfl, by simpa [leB] using ho0, hg0⟩
  rintro k fr h1 ⟨i, v1, rfl, hi, hf1, hf5, hf9, hf10, ho1, hg1⟩
  simp only [go_sem, reduceIte, Nat.reduceEqDiff, Nat.reduceAdd, Nat.reduceMul, Nat.reduceSub, Int.reduceLE, Int.reduceLT, Int.reduceNe, Int.reduceToNat, Int.reducePow, Int.reduceAdd, Int.reduceMul, reduceCtorEq, true_and, and_true, cond_true, cond_false, List.map_cons, List.map_nil, Option.map_some, Option.map_none, List.getElem?_cons_zero, List.getElem?_cons_succ, ne_eq, not_false_eq_true, List.nil_append, List.append_nil, List.cons_append, List.contains_cons, List.contains_nil, Nat.reduceBEq, Bool.or_false, Bool.false_or, Bool.true_or, Bool.or_true, hf1, hf5, hf9, hf10]
  refine condK_intro (fun hc => ?_) (fun hc => ?_)
  · have hc : i < 8 := by have := of_decide_eq_true hc; omega
    obtain ⟨v2, h2, e2, ho2, hg2⟩ := append_byte (b := x / 2 ^ (8 * i) % 256) ho1 (by omega) (by rw [List.length_append, leB_length]; omega)
    have em : min (8 * i) 64 = 8 * i := by omega
    simp only [go_sem, reduceIte, Nat.reduceEqDiff, Nat.reduceAdd, Nat.reduceMul, Nat.reduceSub, Int.reduceLE, Int.reduceLT, Int.reduceNe, Int.reduceToNat, Int.reducePow, Int.reduceAdd, Int.reduceMul, reduceCtorEq, true_and, and_true, cond_true, cond_false, List.map_cons, List.map_nil, Option.map_some, Option.map_none, List.getElem?_cons_zero, List.getElem?_cons_succ, ne_eq, not_false_eq_true, List.nil_append, List.append_nil, List.cons_append, List.contains_cons, List.contains_nil, Nat.reduceBEq, Bool.or_false, Bool.false_or, Bool.true_or, Bool.or_true, hf1, hf5, hf9, hf10, w_mul8 (show i ≤ 8 by omega), Int.natCast_nonneg, Int.toNat_natCast, em, shr_nat, w_u8, w_u64_in x (by omega), build_byte, e2, w_inc (show i ≤ 1000000000 by omega)]
    exact ⟨8 - (i + 1), by omega, i + 1, v2, rfl, by omega, rfl, rfl, by rw [leB_succ, ← List.append_assoc]; exact ho2, hg1.trans hg2⟩
  · have hc : i = 8 := by have := of_decide_eq_false hc; omega
    subst hc
    simp only [go_sem, reduceIte, Nat.reduceEqDiff, Nat.reduceAdd, Nat.reduceMul, Nat.reduceSub, Int.reduceLE, Int.reduceLT, Int.reduceNe, Int.reduceToNat, Int.reducePow, Int.reduceAdd, Int.reduceMul, reduceCtorEq, true_and, and_true, cond_true, cond_false, List.map_cons, List.map_nil, Option.map_some, Option.map_none, List.getElem?_cons_zero, List.getElem?_cons_succ, ne_eq, not_false_eq_true, List.nil_append, List.append_nil, List.cons_append, List.contains_cons, List.contains_nil, Nat.reduceBEq, Bool.or_false, Bool.false_or, Bool.true_or, Bool.or_true, hf1, hf5, hf9, hf10, aResults_one (F := Try.f11) rfl]
    exact ⟨_, _, rfl, ho1, hg1⟩
end Go.Proofs.Yteblojfcalgoeaa

/- Seat 1: codec's short forms, blocks and texts, and their twins by hand. Conditions: none. -/
namespace Go.Proofs.Yteblojfcalgoeaa
open Go Go.RowKit
set_option maxRecDepth 100000
set_option linter.unusedSimpArgs false
set_option linter.unusedVariables false

/-- A number with a sign, folded. -/
def zigN (x : Int) : Nat := if x < 0 then (-2 * x - 1).toNat else (2 * x).toNat

theorem xor_zero (a : Int) : (BitVec.ofInt 64 a ^^^ BitVec.ofInt 64 0).toNat = (a % 18446744073709551616).toNat := by
  have : BitVec.ofInt 64 0 = 0#64 := by decide
  rw [this, BitVec.xor_zero, BitVec.toNat_ofInt]
  rfl
theorem xor_ones (a : Int) : (BitVec.ofInt 64 a ^^^ BitVec.ofInt 64 (-1)).toNat = 18446744073709551615 - (a % 18446744073709551616).toNat := by
  have : BitVec.ofInt 64 (-1) = BitVec.allOnes 64 := by decide
  rw [this, BitVec.xor_allOnes, BitVec.toNat_not, BitVec.toNat_ofInt]
  rfl
theorem fdiv63 (x : Int) (h1 : -9223372036854775808 ≤ x) (h2 : x < 9223372036854775808) : x.fdiv 9223372036854775808 = if x < 0 then -1 else 0 := by
  rw [Int.fdiv_eq_ediv_of_nonneg _ (by decide)]
  split <;> omega

theorem zig_eq (x : Int) (h1 : -9223372036854775808 ≤ x) (h2 : x < 9223372036854775808) : IntKind.u64.wrap (xorI .i64 (IntKind.i64.wrap (x * 2)) (x.fdiv 9223372036854775808)) = (zigN x : Int) := by
  have hx : ∀ b : Int, IntKind.u64.wrap (xorI .i64 (IntKind.i64.wrap (x * 2)) b) = IntKind.u64.wrap (IntKind.i64.wrap ((BitVec.ofInt 64 (IntKind.i64.wrap (x * 2)) ^^^ BitVec.ofInt 64 b).toNat)) := fun b => rfl
  rw [fdiv63 x h1 h2, hx]
  unfold zigN
  by_cases h : x < 0
  · rw [if_pos h, if_pos h, xor_ones, IntKind.wrap_u64, IntKind.wrap_i64, IntKind.wrap_i64]
    omega
  · rw [if_neg h, if_neg h, xor_zero, IntKind.wrap_u64, IntKind.wrap_i64, IntKind.wrap_i64]
    omega
theorem var30_eq (x : Int) (h1 : -9223372036854775808 ≤ x) (h2 : x < 9223372036854775808) : xorI .u64 (IntKind.u64.wrap (IntKind.u64.wrap x * 2)) (IntKind.u64.wrap (x.fdiv 9223372036854775808)) = (zigN x : Int) := by
  have hx : ∀ b : Int, xorI .u64 (IntKind.u64.wrap (IntKind.u64.wrap x * 2)) (IntKind.u64.wrap b) = IntKind.u64.wrap ((BitVec.ofInt 64 (IntKind.u64.wrap (IntKind.u64.wrap x * 2)) ^^^ BitVec.ofInt 64 (IntKind.u64.wrap b)).toNat) := fun b => rfl
  have hm : BitVec.ofInt 64 (IntKind.u64.wrap (-1)) = BitVec.ofInt 64 (-1) := by decide
  have hz : BitVec.ofInt 64 (IntKind.u64.wrap 0) = BitVec.ofInt 64 0 := by decide
  rw [fdiv63 x h1 h2, hx]
  unfold zigN
  by_cases h : x < 0
  · rw [if_pos h, if_pos h, hm, xor_ones, IntKind.wrap_u64, IntKind.wrap_u64, IntKind.wrap_u64]
    omega
  · rw [if_neg h, if_neg h, hz, xor_zero, IntKind.wrap_u64, IntKind.wrap_u64, IntKind.wrap_u64]
    omega
theorem zigN_lt (x : Int) (h1 : -9223372036854775808 ≤ x) (h2 : x < 9223372036854775808) : zigN x < 18446744073709551616 := by
  unfold zigN
  split <;> omega

theorem zig64_con (x : Int) (h1 : -9223372036854775808 ≤ x) (h2 : x < 9223372036854775808) (h : AH) :
    Con E0 sp0 100000 1 36 [.int .i64 x] h fun o => o = .ret (.int .u64 (zigN x)) h := by
  refine Con.of_body rfl fn36 fun n _ => ⟨rfl, ?_⟩
  conv in slim _ _ _ => cbv
  simp only [go_sem, reduceIte, Nat.reduceEqDiff, Nat.reduceAdd, Nat.reduceMul, Nat.reduceSub, Int.reduceLE, Int.reduceLT, Int.reduceNe, Int.reduceToNat, Int.reducePow, Int.reduceAdd, Int.reduceMul, reduceCtorEq, true_and, and_true, cond_true, cond_false, List.map_cons, List.map_nil, Option.map_some, Option.map_none, List.getElem?_cons_zero, List.getElem?_cons_succ, ne_eq, not_false_eq_true, List.nil_append, List.append_nil, List.cons_append, List.contains_cons, List.contains_nil, Nat.reduceBEq, Bool.or_false, Bool.false_or, Bool.true_or, Bool.or_true, aResults_one (F := Try.f36) rfl]
  rw [← zig_eq x h1 h2]
  rfl

theorem putUv_con (x : Nat) (hx : x < 18446744073709551616) (v : AV) (bs : List UInt8) (h : AH) (hb : BS h v bs) (hn : bs.length + 10 ≤ 140737488355328) :
    Con E0 sp0 100000 2 12 [v, .int .u64 x] h fun o => ∃ v' h', o = .ret v' h' ∧ Own 5 h' v' (bs ++ shortB x) ∧ Grew h h' .nils v' := by
  refine Con.of_body rfl fn12 fun n hn2 => ⟨rfl, ?_⟩
  conv in slim _ _ _ => cbv
  obtain ⟨_, e1, v1, h1, rfl, ho1, hg1⟩ := clone_con v bs h hb (by omega) n hn2
  obtain ⟨_, e2, v2, h2, rfl, ho2, hg2⟩ := short_con x hx v1 bs h1 ho1 hn n hn2
  simp only [go_sem, reduceIte, Nat.reduceEqDiff, Nat.reduceAdd, Nat.reduceMul, Nat.reduceSub, Int.reduceLE, Int.reduceLT, Int.reduceNe, Int.reduceToNat, Int.reducePow, Int.reduceAdd, Int.reduceMul, reduceCtorEq, true_and, and_true, cond_true, cond_false, List.map_cons, List.map_nil, Option.map_some, Option.map_none, List.getElem?_cons_zero, List.getElem?_cons_succ, ne_eq, not_false_eq_true, List.nil_append, List.append_nil, List.cons_append, List.contains_cons, List.contains_nil, Nat.reduceBEq, Bool.or_false, Bool.false_or, Bool.true_or, Bool.or_true, e1, e2, aResults_one (F := Try.f12) rfl]
  exact ⟨_, _, rfl, ho2, hg1.trans hg2⟩

theorem putV_con (x : Int) (hx1 : -9223372036854775808 ≤ x) (hx2 : x < 9223372036854775808) (v : AV) (bs : List UInt8) (h : AH) (hb : BS h v bs) (hn : bs.length + 10 ≤ 140737488355328) :
    Con E0 sp0 100000 3 14 [v, .int .i64 x] h fun o => ∃ v' h', o = .ret v' h' ∧ Own 5 h' v' (bs ++ shortB (zigN x)) ∧ Grew h h' .nils v' := by
  refine Con.of_body rfl fn14 fun n hn2 => ⟨rfl, ?_⟩
  conv in slim _ _ _ => cbv
  obtain ⟨_, e1, rfl⟩ := zig64_con x hx1 hx2 h n (by omega)
  obtain ⟨_, e2, v2, h2, rfl, ho2, hg2⟩ := putUv_con (zigN x) (zigN_lt x hx1 hx2) v bs h hb hn n (by omega)
  simp only [go_sem, reduceIte, Nat.reduceEqDiff, Nat.reduceAdd, Nat.reduceMul, Nat.reduceSub, Int.reduceLE, Int.reduceLT, Int.reduceNe, Int.reduceToNat, Int.reducePow, Int.reduceAdd, Int.reduceMul, reduceCtorEq, true_and, and_true, cond_true, cond_false, List.map_cons, List.map_nil, Option.map_some, Option.map_none, List.getElem?_cons_zero, List.getElem?_cons_succ, ne_eq, not_false_eq_true, List.nil_append, List.append_nil, List.cons_append, List.contains_cons, List.contains_nil, Nat.reduceBEq, Bool.or_false, Bool.false_or, Bool.true_or, Bool.or_true, e1, e2, aResults_one (F := Try.f14) rfl]
  exact ⟨_, _, rfl, ho2, hg2⟩

theorem varint30_con (x : Int) (hx1 : -9223372036854775808 ≤ x) (hx2 : x < 9223372036854775808) (h : AH) :
    Con E0 sp0 100000 2 15 [.int .i64 x] h fun o => ∃ v' h', o = .ret v' h' ∧ Own 5 h' v' (shortB (zigN x)) ∧ Grew h h' .nils v' := by
  refine Con.of_body rfl fn15 fun n hn2 => ⟨rfl, ?_⟩
  conv in slim _ _ _ => cbv
  obtain ⟨_, e2, v2, h2, rfl, ho2, hg2⟩ := short30_con (zigN x) (zigN_lt x hx1 hx2) h n (by omega)
  have e3 := var30_eq x hx1 hx2
  have m1 : (2 : Int) ^ min 1 64 = 2 := rfl
  have m2 : (2 : Int) ^ min 63 64 = 9223372036854775808 := rfl
  simp only [go_sem, reduceIte, Nat.reduceEqDiff, Nat.reduceAdd, Nat.reduceMul, Nat.reduceSub, Int.reduceLE, Int.reduceLT, Int.reduceNe, Int.reduceToNat, Int.reducePow, Int.reduceAdd, Int.reduceMul, reduceCtorEq, true_and, and_true, cond_true, cond_false, List.map_cons, List.map_nil, Option.map_some, Option.map_none, List.getElem?_cons_zero, List.getElem?_cons_succ, ne_eq, not_false_eq_true, List.nil_append, List.append_nil, List.cons_append, List.contains_cons, List.contains_nil, Nat.reduceBEq, Bool.or_false, Bool.false_or, Bool.true_or, Bool.or_true, m1, m2, e3, e2, aResults_one (F := Try.f15) rfl]
  exact ⟨_, _, rfl, ho2, hg2⟩

theorem putB_con (v w : AV) (bs ws : List UInt8) (h : AH) (hb : BS h v bs) (hw : BS h w ws) (hwl : ∀ i ∈ ids w, i < h.next) (hn : bs.length + ws.length + 10 ≤ 140737488355328) :
    Con E0 sp0 100000 3 16 [v, w] h fun o => ∃ v' h', o = .ret v' h' ∧ Own 5 h' v' (bs ++ shortB ws.length ++ ws) ∧ Grew h h' .nils v' := by
  refine Con.of_body rfl fn16 fun n hn2 => ⟨rfl, ?_⟩
  conv in slim _ _ _ => cbv
  obtain ⟨_, e2, v2, h2, rfl, ho2, hg2⟩ := putUv_con ws.length (by omega) v bs h hb (by omega) n (by omega)
  have hw2 : BS h2 w ws := hw.keep hg2.keep (by simp [ids])
  obtain ⟨v3, h3, e3, ho3, hg3⟩ := append_own byte24 seq24 ho2 hw2.news (by have := shortB_len10 (n := ws.length) (by omega); rw [List.length_append]; omega)
  simp only [go_sem, reduceIte, Nat.reduceEqDiff, Nat.reduceAdd, Nat.reduceMul, Nat.reduceSub, Int.reduceLE, Int.reduceLT, Int.reduceNe, Int.reduceToNat, Int.reducePow, Int.reduceAdd, Int.reduceMul, reduceCtorEq, true_and, and_true, cond_true, cond_false, List.map_cons, List.map_nil, Option.map_some, Option.map_none, List.getElem?_cons_zero, List.getElem?_cons_succ, ne_eq, not_false_eq_true, List.nil_append, List.append_nil, List.cons_append, List.contains_cons, List.contains_nil, Nat.reduceBEq, Bool.or_false, Bool.false_or, Bool.true_or, Bool.or_true, len_bytes byte24 hw, w_u64_in ws.length (by omega), e2, e3, aResults_one (F := Try.f16) rfl]
  exact ⟨_, _, rfl, ho3, hg2.trans hg3⟩

theorem block30_con (s : List UInt8) (h : AH) (hn : s.length + 10 ≤ 140737488355328) :
    Con E0 sp0 100000 2 17 [.str s] h fun o => ∃ v' h', o = .ret v' h' ∧ Own 5 h' v' (shortB s.length ++ s) ∧ Grew h h' .nils v' := by
  refine Con.of_body rfl fn17 fun n hn2 => ⟨rfl, ?_⟩
  conv in slim _ _ _ => cbv
  obtain ⟨_, e2, v2, h2, rfl, ho2, hg2⟩ := short30_con s.length (by omega) h n (by omega)
  obtain ⟨v3, h3, e3, ho3, hg3⟩ := append_own byte24 seq9 ho2 (newsOf_str (h := h2) (s := s)) (by have := shortB_len10 (n := s.length) (by omega); omega)
  simp only [go_sem, reduceIte, Nat.reduceEqDiff, Nat.reduceAdd, Nat.reduceMul, Nat.reduceSub, Int.reduceLE, Int.reduceLT, Int.reduceNe, Int.reduceToNat, Int.reducePow, Int.reduceAdd, Int.reduceMul, reduceCtorEq, true_and, and_true, cond_true, cond_false, List.map_cons, List.map_nil, Option.map_some, Option.map_none, List.getElem?_cons_zero, List.getElem?_cons_succ, ne_eq, not_false_eq_true, List.nil_append, List.append_nil, List.cons_append, List.contains_cons, List.contains_nil, Nat.reduceBEq, Bool.or_false, Bool.false_or, Bool.true_or, Bool.or_true, len_str str9, w_u64_in s.length (by omega), e2, e3, aResults_one (F := Try.f17) rfl]
  exact ⟨_, _, rfl, ho3, hg2.trans hg3⟩
end Go.Proofs.Yteblojfcalgoeaa

/- Seat 1: codec.PutTexts. Conditions: none. -/
namespace Go.Proofs.Yteblojfcalgoeaa
open Go Go.RowKit
set_option maxRecDepth 100000
set_option linter.unusedSimpArgs false
set_option linter.unusedVariables false

/-- A slice of texts. -/
def TS (h : AH) (w : AV) (ts : List (List UInt8)) : Prop :=
  ∃ i o c l cs t m, w = .sl i o ts.length c l ∧ i < h.next ∧ h.get i = .cells cs t m ∧ ∀ (j : Nat) (s : List UInt8), ts[j]? = some s → cs[o + j]? = some (.str s)
theorem TS.keep {h h' : AH} {w : AV} {ts : List (List UInt8)} {S : List Nat} (hb : TS h w ts) (k : Keep h h' S) (hs : ∀ i ∈ ids w, i ∉ S) : TS h' w ts := by
  obtain ⟨i, o, c, l, cs, t, m, rfl, h1, h2, h3⟩ := hb
  exact ⟨i, o, c, l, cs, t, m, rfl, Nat.lt_of_lt_of_le h1 k.next, by rw [k.get _ h1 (hs _ (by simp [ids]))]; exact h2, h3⟩
theorem elem48 : elemT E0 48 = some (9, 1) := by kernel_rfl
theorem slice48 : sliceT E0 48 = true := by kernel_rfl
theorem atom9 : atomT E0 9 = true := by kernel_rfl
theorem TS.len {h : AH} {w : AV} {ts : List (List UInt8)} (hb : TS h w ts) : qBuiltin E0 h .len [w] [48] = some (.int .i64 ts.length) := by
  obtain ⟨i, o, c, l, cs, t, m, rfl, h1, h2, h3⟩ := hb
  exact len_sl slice48
theorem TS.index {h : AH} {w : AV} {ts : List (List UInt8)} (hb : TS h w ts) {j : Nat} {s : List UInt8} (hj : ts[j]? = some s) {k : IntKind} : ∃ p, aIndexAt E0 48 w (.int k j) = some p ∧ aLoad E0 h 9 p = some (.str s) := by
  obtain ⟨i, o, c, l, cs, t, m, rfl, h1, h2, h3⟩ := hb
  have hlt := (List.getElem?_eq_some_iff.1 hj).1
  refine ⟨_, aIndexAt_sl elem48 (by omega) (by simpa using hlt), ?_⟩
  rw [aLoad_ptr, h2, loadAt_atom atom9]
  simpa using h3 j s hj

/-- Texts, each behind how long it is. -/
def flatT : List (List UInt8) → List UInt8
  | [] => []
  | s :: r => shortB s.length ++ s ++ flatT r
theorem flatT_append : ∀ (a b : List (List UInt8)), flatT (a ++ b) = flatT a ++ flatT b
  | [], b => rfl
  | s :: r, b => by simp [flatT, flatT_append r b]
theorem take_next {α : Type} {l : List α} {j : Nat} {x : α} (h : l[j]? = some x) : l.take (j + 1) = l.take j ++ [x] := by
  have hlt := (List.getElem?_eq_some_iff.1 h).1
  rw [List.take_add_one, h]; rfl

theorem putTexts_con (v w : AV) (bs : List UInt8) (ts : List (List UInt8)) (h : AH) (hb : BS h v bs) (hw : TS h w ts) (hl : ts.length ≤ 1000) (hts : ∀ s ∈ ts, s.length ≤ 1000) (hn : bs.length ≤ 100000000) :
    Con E0 sp0 100000 3 18 [v, w] h fun o => ∃ v' h', o = .ret v' h' ∧ Own 5 h' v' (bs ++ shortB ts.length ++ flatT ts) ∧ Grew h h' .nils v' := by
  refine Con.of_body rfl fn18 fun n hn2 => ⟨rfl, ?_⟩
  conv in slim _ _ _ => cbv
  obtain ⟨_, e2, v2, h2, rfl, ho2, hg2⟩ := putUv_con ts.length (by omega) v bs h hb (by omega) n (by omega)
  have hw2 : TS h2 w ts := hw.keep hg2.keep (by simp [ids])
  have hln : ∀ j, j ≤ ts.length → (flatT (ts.take j)).length ≤ j * 1010 := by
    intro j
    induction j with
    | zero => intro _; simp [flatT]
    | succ j ih =>
      intro hj
      have := ih (by omega)
      have hx : ts[j]? = some ts[j] := List.getElem?_eq_getElem (by omega)
      have hm := hts ts[j] (List.getElem_mem (by omega))
      have hs := shortB_len10 (n := (ts[j]).length) (by omega)
      rw [take_next hx, flatT_append, List.length_append]
      simp only [flatT, List.length_append, List.append_nil, List.length_nil]
      omega
  have hsl := shortB_len10 (n := ts.length) (by omega)
  simp only [go_sem, reduceIte, Nat.reduceEqDiff, Nat.reduceAdd, Nat.reduceMul, Nat.reduceSub, Int.reduceLE, Int.reduceLT, Int.reduceNe, Int.reduceToNat, Int.reducePow, Int.reduceAdd, Int.reduceMul, reduceCtorEq, true_and, and_true, cond_true, cond_false, List.map_cons, List.map_nil, Option.map_some, Option.map_none, List.getElem?_cons_zero, List.getElem?_cons_succ, ne_eq, not_false_eq_true, List.nil_append, List.append_nil, List.cons_append, List.contains_cons, List.contains_nil, Nat.reduceBEq, Bool.or_false, Bool.false_or, Bool.true_or, Bool.or_true, hw.len, w_u64_in ts.length (by omega), e2, hw2.len]
  refine wLoop_inv (fun k fr h1 => ∃ i v1, k = ts.length - i ∧ i ≤ ts.length ∧ fr 5 = v1 ∧ fr 13 = w ∧ fr 14 = .int .i64 (ts.length : Nat) ∧ fr 15 = .int .i64 (i : Nat) ∧ Own 5 h1 v1 (bs ++ shortB ts.length ++ flatT (ts.take i)) ∧ Grew h h1 .nils v1) ?_ 100000 ts.length _ _ (by omega) ⟨0, v2, rfl, by omega, by simp only [go_sem, reduceIte, Nat.reduceEqDiff, Nat.reduceAdd, Nat.reduceMul, Nat.reduceSub, Int.reduceLE, Int.reduceLT, Int.reduceNe, Int.reduceToNat, Int.reducePow, Int.reduceAdd, Int.reduceMul, reduceCtorEq, true_and, and_true, cond_true, cond_false, List.map_cons, List.map_nil, Option.map_some, Option.map_none, List.getElem?_cons_zero, List.getElem?_cons_succ, ne_eq, not_false_eq_true, List.nil_append, List.append_nil, List.cons_append, List.contains_cons, List.contains_nil, Nat.reduceBEq, Bool.or_false, Bool.false_or, Bool.true_or, Bool.or_true], by simp only [go_sem, reduceIte, Nat.reduceEqDiff, Nat.reduceAdd, Nat.reduceMul, Nat.reduceSub, Int.reduceLE, Int.reduceLT, Int.reduceNe, Int.reduceToNat, Int.reducePow, Int.reduceAdd, Int.reduceMul, reduceCtorEq, true_and, and_true, cond_true, cond_false, List.map_cons, List.map_nil, Option.map_some, Option.map_none, List.getElem?_cons_zero, List.getElem?_cons_succ, ne_eq, not_false_eq_true, List.nil_append, List.append_nil, List.cons_append, List.contains_cons, List.contains_nil, Nat.reduceBEq, Bool.or_false, Bool.false_or, Bool.true_or, Bool.or_true], by simp only [go_sem, reduceIte, Nat.reduceEqDiff, Nat.reduceAdd, Nat.reduceMul, Nat.reduceSub, Int.reduceLE, Int.reduceLT, Int.reduceNe, Int.reduceToNat, Int.reducePow, Int.reduceAdd, Int.reduceMul, reduceCtorEq, true_and, and_true, cond_true, cond_false, List.map_cons, List.map_nil, Option.map_some, Option.map_none, List.getElem?_cons_zero, List.getElem?_cons_succ, ne_eq, not_false_eq_true, List.nil_append, List.append_nil, List.cons_append, List.contains_cons, List.contains_nil, Nat.reduceBEq, Bool.or_false, Bool.false_or, Bool.true_or, Bool.or_true], by simp only [go_sem, reduceIte, Nat.reduceEqDiff, Nat.reduceAdd, Nat.reduceMul, Nat.reduceSub, Int.reduceLE, Int.reduceLT, Int.reduceNe, Int.reduceToNat, Int.reducePow, Int.reduceAdd, Int.reduceMul, reduceCtorEq, true_and, and_true, cond_true, cond_false, List.map_cons, List.map_nil, Option.map_some, Option.map_none, List.getElem?_cons_zero, List.getElem?_cons_succ, ne_eq, not_false_eq_true, List.nil_append, List.append_nil, List.cons_append, List.contains_cons, List.contains_nil, Nat.reduceBEq, Bool.or_false, Bool.false_or, Bool.true_or, Bool.or_true]; rfl, by simpa [flatT] using ho2, hg2⟩
  rintro k fr h1 ⟨i, v1, rfl, hi, hf5, hf13, hf14, hf15, ho1, hg1⟩
  simp only [go_sem, reduceIte, Nat.reduceEqDiff, Nat.reduceAdd, Nat.reduceMul, Nat.reduceSub, Int.reduceLE, Int.reduceLT, Int.reduceNe, Int.reduceToNat, Int.reducePow, Int.reduceAdd, Int.reduceMul, reduceCtorEq, true_and, and_true, cond_true, cond_false, List.map_cons, List.map_nil, Option.map_some, Option.map_none, List.getElem?_cons_zero, List.getElem?_cons_succ, ne_eq, not_false_eq_true, List.nil_append, List.append_nil, List.cons_append, List.contains_cons, List.contains_nil, Nat.reduceBEq, Bool.or_false, Bool.false_or, Bool.true_or, Bool.or_true, hf5, hf13, hf14, hf15]
  have hw1 : TS h1 w ts := hw.keep hg1.keep (by simp [ids])
  refine condK_intro (fun hc => ?_) (fun hc => ?_)
  · have hc : i < ts.length := by have := of_decide_eq_true hc; omega
    have hx : ts[i]? = some ts[i] := List.getElem?_eq_getElem hc
    obtain ⟨p, e3, e4⟩ := hw1.index hx (k := .i64)
    have hm := hts ts[i] (List.getElem_mem hc)
    have hs := shortB_len10 (n := (ts[i]).length) (by omega)
    have hli := hln i hi
    have hi2 : i * 1010 ≤ 1010000 := by omega
    obtain ⟨_, e5, v5, h5, rfl, ho5, hg5⟩ := short_con (ts[i]).length (by omega) v1 _ h1 ho1 (by simp only [List.length_append]; omega) n (by omega)
    obtain ⟨v6, h6, e6, ho6, hg6⟩ := append_own byte24 seq9 ho5 (newsOf_str (h := h5) (s := ts[i])) (by simp only [List.length_append]; omega)
    simp only [go_sem, reduceIte, Nat.reduceEqDiff, Nat.reduceAdd, Nat.reduceMul, Nat.reduceSub, Int.reduceLE, Int.reduceLT, Int.reduceNe, Int.reduceToNat, Int.reducePow, Int.reduceAdd, Int.reduceMul, reduceCtorEq, true_and, and_true, cond_true, cond_false, List.map_cons, List.map_nil, Option.map_some, Option.map_none, List.getElem?_cons_zero, List.getElem?_cons_succ, ne_eq, not_false_eq_true, List.nil_append, List.append_nil, List.cons_append, List.contains_cons, List.contains_nil, Nat.reduceBEq, Bool.or_false, Bool.false_or, Bool.true_or, Bool.or_true, hf5, hf13, hf14, hf15, e3, e4, len_str str9, w_u64_in (ts[i]).length (by omega), e5, e6, w_inc (show i ≤ 1000000000 by omega)]
    exact ⟨ts.length - (i + 1), by omega, i + 1, v6, rfl, by omega, rfl, rfl, by rw [take_next hx, flatT_append]; simpa [flatT, List.append_assoc] using ho6, (hg1.trans hg5).trans hg6⟩
  · have hc : i = ts.length := by have := of_decide_eq_false hc; omega
    subst hc
    rw [List.take_length] at ho1
    simp only [go_sem, reduceIte, Nat.reduceEqDiff, Nat.reduceAdd, Nat.reduceMul, Nat.reduceSub, Int.reduceLE, Int.reduceLT, Int.reduceNe, Int.reduceToNat, Int.reducePow, Int.reduceAdd, Int.reduceMul, reduceCtorEq, true_and, and_true, cond_true, cond_false, List.map_cons, List.map_nil, Option.map_some, Option.map_none, List.getElem?_cons_zero, List.getElem?_cons_succ, ne_eq, not_false_eq_true, List.nil_append, List.append_nil, List.cons_append, List.contains_cons, List.contains_nil, Nat.reduceBEq, Bool.or_false, Bool.false_or, Bool.true_or, Bool.or_true, hf5, hf13, hf14, hf15, aResults_one (F := Try.f18) rfl]
    exact ⟨_, _, rfl, ho1, hg1⟩
end Go.Proofs.Yteblojfcalgoeaa

/- Seat 1: the pieces of reading, and types of readers. Conditions: none. -/
namespace Go.Proofs.Yteblojfcalgoeaa
open Go Go.RowKit
set_option maxRecDepth 100000

noncomputable def body68 : Code := bodyOf Try.f68
noncomputable def body105 : Code := bodyOf Try.f105
noncomputable def D0 : Defer where
  F := Try.f68
  A1 := seqL body68
  A2 := seqL (seqR body68)
  A3 := seqL (seqR (seqR body68))
  G := seqR (seqR (seqR (seqR body68)))
  d := regId (seqL (seqR (seqR (seqR body68))))
  o1 := operAt (regOps (seqL (seqR (seqR (seqR body68))))) 0
  o2 := operAt (regOps (seqL (seqR (seqR (seqR body68))))) 1
  s := 18
  x := 4
  y := 2
  g := 105
  F0 := Try.f105
  d0 := regId (seqL body105)
  r0 := operAt (regOps (seqL body105)) 0
  s0 := 5
  os0 := (regOps (seqL body105)).drop 1
  rest0 := seqR body105
theorem D0_of : deferOf Try.prog 68 105 = some D0 := by kernel_rfl
theorem sp68 : sp0 68 = some (deferSpec Try.prog E0 100000 68 105) := rfl

@[go_sem] theorem fa_117_0 {i o : Nat} : aFieldAt E0 117 (.ptr i o) 0 = some (.ptr i (o + 0)) := aFieldAt_ptr (by kernel_rfl)
@[go_sem] theorem fa_117_1 {i o : Nat} : aFieldAt E0 117 (.ptr i o) 1 = some (.ptr i (o + 1)) := aFieldAt_ptr (by kernel_rfl)
@[go_sem] theorem fa_117_2 {i o : Nat} : aFieldAt E0 117 (.ptr i o) 2 = some (.ptr i (o + 2)) := aFieldAt_ptr (by kernel_rfl)
@[go_sem] theorem la_3 {o : Nat} {cs : List AV} {t : TypeId} {m : Mode} : loadAt E0 3 o (.cells cs t m) = cs[o]? := loadAt_atom (by kernel_rfl)
@[go_sem] theorem la_5 {o : Nat} {cs : List AV} {t : TypeId} {m : Mode} : loadAt E0 5 o (.cells cs t m) = cs[o]? := loadAt_atom (by kernel_rfl)
@[go_sem] theorem la_24 {o : Nat} {cs : List AV} {t : TypeId} {m : Mode} : loadAt E0 24 o (.cells cs t m) = cs[o]? := loadAt_atom (by kernel_rfl)
@[go_sem] theorem la_25 {o : Nat} {cs : List AV} {t : TypeId} {m : Mode} : loadAt E0 25 o (.cells cs t m) = cs[o]? := loadAt_atom (by kernel_rfl)
@[go_sem] theorem la_39 {o : Nat} {cs : List AV} {t : TypeId} {m : Mode} : loadAt E0 39 o (.cells cs t m) = cs[o]? := loadAt_atom (by kernel_rfl)
@[go_sem] theorem la_40 {o : Nat} {cs : List AV} {t : TypeId} {m : Mode} : loadAt E0 40 o (.cells cs t m) = cs[o]? := loadAt_atom (by kernel_rfl)
@[go_sem] theorem la_2 {o : Nat} {cs : List AV} {t : TypeId} {m : Mode} : loadAt E0 2 o (.cells cs t m) = cs[o]? := loadAt_atom (by kernel_rfl)
@[go_sem] theorem la_23 {o : Nat} {cs : List AV} {t : TypeId} {m : Mode} : loadAt E0 23 o (.cells cs t m) = cs[o]? := loadAt_atom (by kernel_rfl)
@[go_sem] theorem la_32 {o : Nat} {cs : List AV} {t : TypeId} {m : Mode} : loadAt E0 32 o (.cells cs t m) = cs[o]? := loadAt_atom (by kernel_rfl)
@[go_sem] theorem la_48 {o : Nat} {cs : List AV} {t : TypeId} {m : Mode} : loadAt E0 48 o (.cells cs t m) = cs[o]? := loadAt_atom (by kernel_rfl)
@[go_sem] theorem pe_40 {i o : Nat} : aBin E0 .eql 40 (.ptr i o) .nilp = some (.bool false) := bin_peql (by kernel_rfl)
@[go_sem] theorem alloc_3 {K : Caller} {fr : Nat → AV} {h : AH} : aStep E0 K false fr h (.alloc 3) = some (.val (.ptr h.next 0) (h.push (.cells [.int .i64 0] 3 .own))) := st_alloc (z := .int .i64 0) (by kernel_rfl)
@[go_sem] theorem alloc_25 {K : Caller} {fr : Nat → AV} {h : AH} : aStep E0 K false fr h (.alloc 25) = some (.val (.ptr h.next 0) (h.push (.cells [.int .u64 0] 25 .own))) := st_alloc (z := .int .u64 0) (by kernel_rfl)
@[go_sem] theorem alloc_5 {K : Caller} {fr : Nat → AV} {h : AH} : aStep E0 K false fr h (.alloc 5) = some (.val (.ptr h.next 0) (h.push (.cells [.int .u8 0] 5 .own))) := st_alloc (z := .int .u8 0) (by kernel_rfl)
@[go_sem] theorem alloc_23 {K : Caller} {fr : Nat → AV} {h : AH} : aStep E0 K false fr h (.alloc 23) = some (.val (.ptr h.next 0) (h.push (.cells [.int .u16 0] 23 .own))) := st_alloc (z := .int .u16 0) (by kernel_rfl)
@[go_sem] theorem alloc_32 {K : Caller} {fr : Nat → AV} {h : AH} : aStep E0 K false fr h (.alloc 32) = some (.val (.ptr h.next 0) (h.push (.cells [.int .u32 0] 32 .own))) := st_alloc (z := .int .u32 0) (by kernel_rfl)
@[go_sem] theorem alloc_2 {K : Caller} {fr : Nat → AV} {h : AH} : aStep E0 K false fr h (.alloc 2) = some (.val (.ptr h.next 0) (h.push (.cells [.int .i64 0] 2 .own))) := st_alloc (z := .int .i64 0) (by kernel_rfl)
@[go_sem] theorem alloc_24 {K : Caller} {fr : Nat → AV} {h : AH} : aStep E0 K false fr h (.alloc 24) = some (.val (.ptr h.next 0) (h.push (.cells [.nils] 24 .own))) := st_alloc (z := .nils) (by kernel_rfl)
@[go_sem] theorem alloc_48 {K : Caller} {fr : Nat → AV} {h : AH} : aStep E0 K false fr h (.alloc 48) = some (.val (.ptr h.next 0) (h.push (.cells [.nils] 48 .own))) := st_alloc (z := .nils) (by kernel_rfl)
@[go_sem] theorem so_2 {o : Nat} {k : IntKind} {n : Int} {cs : List AV} {t' : TypeId} (ho : o < cs.length) : storeO E0 2 o (.int k n) (.cells cs t' .own) = some (.cells (cs.set o (.int k n)) t' .own) := storeO_atom (by kernel_rfl) rfl (by decide) ho
@[go_sem] theorem so_3 {o : Nat} {k : IntKind} {n : Int} {cs : List AV} {t' : TypeId} (ho : o < cs.length) : storeO E0 3 o (.int k n) (.cells cs t' .own) = some (.cells (cs.set o (.int k n)) t' .own) := storeO_atom (by kernel_rfl) rfl (by decide) ho
@[go_sem] theorem so_5 {o : Nat} {k : IntKind} {n : Int} {cs : List AV} {t' : TypeId} (ho : o < cs.length) : storeO E0 5 o (.int k n) (.cells cs t' .own) = some (.cells (cs.set o (.int k n)) t' .own) := storeO_atom (by kernel_rfl) rfl (by decide) ho
@[go_sem] theorem so_23 {o : Nat} {k : IntKind} {n : Int} {cs : List AV} {t' : TypeId} (ho : o < cs.length) : storeO E0 23 o (.int k n) (.cells cs t' .own) = some (.cells (cs.set o (.int k n)) t' .own) := storeO_atom (by kernel_rfl) rfl (by decide) ho
@[go_sem] theorem so_25 {o : Nat} {k : IntKind} {n : Int} {cs : List AV} {t' : TypeId} (ho : o < cs.length) : storeO E0 25 o (.int k n) (.cells cs t' .own) = some (.cells (cs.set o (.int k n)) t' .own) := storeO_atom (by kernel_rfl) rfl (by decide) ho
@[go_sem] theorem so_32 {o : Nat} {k : IntKind} {n : Int} {cs : List AV} {t' : TypeId} (ho : o < cs.length) : storeO E0 32 o (.int k n) (.cells cs t' .own) = some (.cells (cs.set o (.int k n)) t' .own) := storeO_atom (by kernel_rfl) rfl (by decide) ho
@[go_sem] theorem so_39 {o : Nat} {k : IntKind} {n : Int} {cs : List AV} {t' : TypeId} (ho : o < cs.length) : storeO E0 39 o (.int k n) (.cells cs t' .own) = some (.cells (cs.set o (.int k n)) t' .own) := storeO_atom (by kernel_rfl) rfl (by decide) ho
@[go_sem] theorem so_24_sl {o i p n c : Nat} {l : Bool} {cs : List AV} {t' : TypeId} (ho : o < cs.length) : storeO E0 24 o (.sl i p n c l) (.cells cs t' .own) = some (.cells (cs.set o (.sl i p n c l)) t' .own) := storeO_atom (by kernel_rfl) rfl (by decide) ho
@[go_sem] theorem so_24_nils {o : Nat} {cs : List AV} {t' : TypeId} (ho : o < cs.length) : storeO E0 24 o .nils (.cells cs t' .own) = some (.cells (cs.set o .nils) t' .own) := storeO_atom (by kernel_rfl) rfl (by decide) ho
@[go_sem] theorem so_48_sl {o i p n c : Nat} {l : Bool} {cs : List AV} {t' : TypeId} (ho : o < cs.length) : storeO E0 48 o (.sl i p n c l) (.cells cs t' .own) = some (.cells (cs.set o (.sl i p n c l)) t' .own) := storeO_atom (by kernel_rfl) rfl (by decide) ho
@[go_sem] theorem so_48_nils {o : Nat} {cs : List AV} {t' : TypeId} (ho : o < cs.length) : storeO E0 48 o .nils (.cells cs t' .own) = some (.cells (cs.set o .nils) t' .own) := storeO_atom (by kernel_rfl) rfl (by decide) ho
@[go_sem] theorem D0_s : D0.s = 18 := (rfl)
@[go_sem] theorem D0_x : D0.x = 4 := (rfl)
@[go_sem] theorem D0_y : D0.y = 2 := (rfl)
@[go_sem] theorem D0_g : D0.g = 105 := (rfl)
@[go_sem] theorem D0_s0 : D0.s0 = 5 := (rfl)
@[go_sem] theorem as_39_nili : aAssert E0 39 .nili = some (.tup [.int .i64 0, .bool false]) := by kernel_rfl
@[go_sem] theorem as_39_iface {x : AV} : aAssert E0 39 (.iface 39 x) = some (.tup [x, .bool true]) := by kernel_rfl
@[go_sem] theorem mi_39 {K : Caller} {fr : Nat → AV} {h : AH} {x : Operand} : aStep E0 K true fr h (.makeInterface 39 x) = some (.val (.iface 39 (ev fr x)) h) := st_makeInterface (by kernel_rfl)
end Go.Proofs.Yteblojfcalgoeaa
