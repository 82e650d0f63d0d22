/- Parts of the abstract machine and of its laws, joined. Conditions: none. -/
import Derived.Test.YteblojfcalgoeaaQB
import Derived.Defers
import Derived.Recover
import Derived.Laws.StructEq
set_option linter.unusedVariables false
set_option linter.unusedSimpArgs false
/- The abstract machine: its tables, read off a program. Conditions: none. -/
namespace Go.Proofs.Yteblojfcalgoeaa
open Go Go.RowKit

def zeroAtom : Value → Option AV
  | .bool b => some (.bool b)
  | .int k n => some (.int k n)
  | .string s => some (.str s.data.toList)
  | .pointer none => some .nilp
  | .slice none 0 0 => some .nils
  | .map none => some .nilm
  | .nilFunc => some .nilf
  | .nilIface => some .nili
  | _ => none
def zeroList : List Value → Option (List AV)
  | [] => some []
  | v :: r => match zeroAtom v, zeroList r with
    | some a, some l => some (a :: l)
    | _, _ => none
def zeroAV : Value → Option AV
  | .agg cs => match zeroList cs.toList with
    | some l => some (.agg l)
    | none => none
  | v => zeroAtom v

def tiOf (P : Program) (t : TypeId) : Option TI :=
  match P.underlying t, P.info? t with
  | some d, some i => match i.zero with
    | some z => match zeroAV z with
      | some a => bif Nat.beq a.cells.length i.size then some ⟨d, i.size, i.bytes, a⟩ else none
      | none => none
    | none => none
  | _, _ => none

def fnOf (P : Program) (f : FuncId) : Option Func :=
  match P.funcs[f]? with
  | some F => bif F.body.isSome && !(F.name == "runtime.NumGoroutine") then some F else none
  | none => none

def methOf (P : Program) (t : TypeId) (name : String) : Option FuncId :=
  match P.underlying t, P.info? t with
  | some (.pointer _), some i => match i.methods.find? (·.name == name) with
    | some m => bif m.path.isEmpty then (match m.func with
      | some (f, true) => some f
      | _ => none) else none
    | none => none
  | _, _ => none

theorem zeroAtom_sound {σ : Sig} {v : Value} {a : AV} (h : zeroAtom v = some a) : VR σ a v ∧ a.good = true ∧ a.atom = true := by
  unfold zeroAtom at h
  split at h <;> first | (cases h; refine ⟨?_, rfl, rfl⟩; simp only [VR]) | cases h

theorem zeroList_sound {σ : Sig} : ∀ {vs : List Value} {l : List AV}, zeroList vs = some l → VRL σ l vs ∧ ∀ c ∈ l, c.atom = true
  | [], l, h => by simp [zeroList] at h; subst h; simp [VRL]
  | v :: r, l, h => by
      simp only [zeroList] at h
      split at h
      · rename_i a l' h1 h2
        cases h
        obtain ⟨x1, _, x3⟩ := zeroAtom_sound (σ := σ) h1
        obtain ⟨y1, y2⟩ := zeroList_sound (σ := σ) h2
        refine ⟨by simp only [VRL]; exact ⟨v, r, rfl, x1, y1⟩, fun c hc => ?_⟩
        simp only [List.mem_cons] at hc
        rcases hc with rfl | hc
        · exact x3
        · exact y2 c hc
      · cases h

theorem zeroAV_sound {v : Value} {a : AV} (h : zeroAV v = some a) : a.good = true ∧ (∀ c ∈ a.cells, c.atom = true) ∧ ∀ σ, VR σ a v := by
  unfold zeroAV at h
  split at h
  · split at h
    · rename_i cs l hl
      cases h
      refine ⟨rfl, (zeroList_sound (σ := ⟨0, fun _ => ⟨0, 0, 0⟩⟩) hl).2, fun σ => ?_⟩
      simp only [VR]
      exact ⟨_, rfl, (zeroList_sound hl).1⟩
    · cases h
  · rename_i hna
    obtain ⟨_, h2, h3⟩ := zeroAtom_sound (σ := ⟨0, fun _ => ⟨0, 0, 0⟩⟩) h
    refine ⟨h2, ?_, fun σ => (zeroAtom_sound h).1⟩
    have : a.cells = [a] := by cases a <;> first | rfl | simp [AV.atom] at h3
    rw [this]
    intro c hc
    simp at hc; subst hc; exact h3

def envOf (P : Program) (leaf : TypeId → Option (List Leaf)) : Env := { fn := fnOf P, ty := tiOf P, meth := methOf P, leaf := leaf }

theorem envOf_ok {P : Program} {leaf : TypeId → Option (List Leaf)} (hm : P.follows .mixedOrders = true)
    (hl : ∀ t l, leaf t = some l → P.eqGuardType P.depth t = false ∧ ∀ (σ : Sig) (xs ys : List AV) (vs us : Array Value) (b : Bool) (w : World), VRL σ xs vs.toList → VRL σ ys us.toList → eqLeaf l xs ys = some b → (Op.equalIn 10000 t (.agg vs) (.agg us)).run P w = .ok b w) : EnvT P (envOf P leaf) where
  fn f F h := by
    simp only [envOf, fnOf] at h
    split at h
    · rename_i F' hF
      rw [cond_eq_ite] at h
      split at h
      · rename_i hc
        cases h
        simp only [Bool.and_eq_true, Bool.not_eq_true'] at hc
        exact ⟨hF, hc.1, hc.2⟩
      · cases h
    · cases h
  ty t i h := by
    simp only [envOf, tiOf] at h
    split at h
    · rename_i d j hd hj
      split at h
      · rename_i z hz
        split at h
        · rename_i a ha
          rw [cond_eq_ite] at h
          split at h
          · rename_i hc
            cases h
            obtain ⟨h1, h2, h3⟩ := zeroAV_sound ha
            exact ⟨hd, j, hj, rfl, rfl, z, hz, h1, h2, Nat.eq_of_beq_eq_true hc, h3⟩
          · cases h
        · cases h
      · cases h
    · cases h
  meth t m f h a w := by
    simp only [envOf, methOf] at h
    split at h
    · rename_i e j hd hj
      split at h
      · rename_i mm hmm
        rw [cond_eq_ite] at h
        split at h
        · rename_i hp
          split at h
          · rename_i f' hf'
            cases h
            have hpe : mm.path = #[] := by simpa using hp
            have : ∀ n, (method (n + 1) t (.pointer (some a)) m).run P w = .ok (f, .pointer (some a)) w := fun n => by
              simp [method, typeInfo, hj, hmm, hpe, follow, hf', receiverAt, run_underlying hd, Place.get]
            have hn : P.types.size + Made.depth = (P.types.size + Made.depth - 1) + 1 := by simp [Made.depth]
            rw [hn]
            exact this _
          · cases h
        · cases h
      · cases h
    · cases h
  leaf t l h := hl t l h
  mixed := hm
end Go.Proofs.Yteblojfcalgoeaa

/- The abstract machine: a function that defers one closure, which recovers. Conditions: none. -/
namespace Go.Proofs.Yteblojfcalgoeaa
open Go Go.RowKit

section
variable {P : Program} {E : Env} {B : Nat} {W0 : World}

theorem upon_not_recover {o : Oper} {a : Act} {next : Act → World → Prop} {Q : Exit → Act → World → Prop} {w' : World} (h : o.upon P a next Q (.ok .recover w')) : False := h

theorem aSeqS_sound (ok : EnvT P E) {K : Caller} (okK : CallOK P E.size K) {nt : Nat} {ds : List Deferred} {ops : Array Oper} {cs : List Frame} {Q : Exit → Act → List Frame → World → Prop} {res : CR} : ∀ (l : List Oper) (k : Nat) (fr : Nat → AV) (h : AH) (σ : Sig) (w : World) (a : Act), (∀ j, l[j]? = ops[k + j]?) → R E.size B W0 σ h w → FR σ fr a → a.tmps.size = nt → a.defers = ds →
    aSeq E K nt ops.toList l fr h = some res → CodeR E.size B W0 σ nt ds (fun e a w => Q e a cs w) res → wpOpsS P ops Q (List.range' k l.length) a cs w
  | [], k, fr, h, σ, w, a, hl, r, hf, hn, hd, he, hq => by
      simp [aSeq] at he; subst he
      exact hq a w σ (SE.refl _) r hf hn hd
  | o :: l, k, fr, h, σ, w, a, hl, r, hf, hn, hd, he, hq => by
      have h0 : ops[k]? = some o := by simpa using (hl 0).symm
      have hl' : ∀ j, l[j]? = ops[k + 1 + j]? := fun j => by have := hl (j + 1); simpa [Nat.add_assoc, Nat.add_comm 1 j] using this
      simp only [aSeq] at he
      split at he
      · cases he
      rename_i hod
      simp only [List.length_cons, List.range'_succ, wpOpsS, h0]
      have fin : o.wp P a w (fun a' w' => wpOpsS P ops Q (List.range' (k + 1) l.length) a' cs w') (fun e a' w' => Q e a' cs w') →
          (match (execOp a.eval o).run P w with
          | .ok .recover w' => match recoverD cs with
            | some (v, cs') => wpOpsS P ops Q (List.range' (k + 1) l.length) (a.put o.dst v) cs' w'
            | none => wpOpsS P ops Q (List.range' (k + 1) l.length) (a.put o.dst .nilIface) cs w'
          | r => o.upon P a (fun a' w' => wpOpsS P ops Q (List.range' (k + 1) l.length) a' cs w') (fun e a' w' => Q e a' cs w') r) := fun hw => by
        unfold Oper.wp at hw
        split
        · rename_i w' hr
          rw [hr] at hw
          exact hw.elim
        · exact hw
      split at he
      · rename_i hw
        rw [aWanted_sound hf hw]
        simp only [if_true]
        split at he
        · rename_i v h' hop
          exact fin (aOper_sound ok okK r hf hop fun u w' τ h1 h2 h3 => aSeqS_sound ok okK l (k + 1) _ h' τ w' _ hl' h2 ((hf.mono h1).put hn hod h3) (by rw [Act.size_put]; exact hn) (by rw [Act.defers_put]; exact hd) he (hq.mono h1))
        · rename_i v h' hop
          cases he
          exact fin (aOper_sound ok okK r hf hop fun u w' τ h1 h2 h3 => hq u a w' τ h1 h2 h3 hn hd)
        · cases he
      · rename_i hw
        rw [aWanted_sound hf hw]
        simp only [Bool.false_eq_true, if_false]
        exact aSeqS_sound ok okK l (k + 1) _ h σ w _ hl' r (hf.put hn hod (VR.undef σ)) (by rw [Act.size_put]; exact hn) (by rw [Act.defers_put]; exact hd) he hq
      · cases he

theorem frame0_FR {σ : Sig} {args : List AV} {vs : Array Value} (hv : VRL σ args vs.toList) (n : Nat) (ds : List Deferred) : FR σ (frame0 args) { tmps := vs ++ Array.replicate (n - vs.size) undef, defers := ds } ∧ (vs ++ Array.replicate (n - vs.size) undef).size = max n args.length := by
  have hl := hv.length
  simp at hl
  refine ⟨fun t => ?_, by simp; omega⟩
  simp only [frame0]
  cases ht : args[t]? with
  | some v =>
    obtain ⟨u, hu, hr⟩ := hv.get ht
    have hlt := (List.getElem?_eq_some_iff.1 ht).1
    rw [Array.getD_eq_getD_getElem?, Array.getElem?_append_left (by omega)]
    rw [Array.getElem?_toList] at hu
    rw [hu]
    exact hr
  | none =>
    have hge : vs.size ≤ t := by
      rw [hl]
      exact List.getElem?_eq_none_iff.1 ht
    rw [Array.getD_eq_getD_getElem?, Array.getElem?_append_right hge, Array.getElem?_replicate]
    have e : (if t - vs.size < n - vs.size then some undef else none : Option Value).getD undef = undef := by split <;> rfl
    rw [e]
    exact VR.undef σ
end

/-- The pieces of a function that defers a closure (itself of two captured variables), and of that closure, whose first operation recovers. -/
structure Defer where
  F : Func
  A1 : Code
  A2 : Code
  A3 : Code
  G : Code
  d : Nat
  o1 : Oper
  o2 : Oper
  s : Tmp
  x : Tmp
  y : Tmp
  g : FuncId
  F0 : Func
  d0 : Nat
  r0 : Oper
  s0 : Tmp
  os0 : List Oper
  rest0 : Code

structure Defer.OK (D : Defer) : Prop where
  body : D.F.body = some (.seq D.A1 (.seq D.A2 (.seq D.A3 (.seq (.region D.d #[D.o1, D.o2] false) D.G))))
  res : D.F.results = #[]
  o1 : D.o1.op = .makeFunc (.func D.g) #[] #[.tmp D.x, .tmp D.y] ∧ D.o1.dst = some D.s ∧ D.o1.guard = none
  o2 : ∃ ts, D.o2.op = .defer { callee := .value (.tmp D.s), args := #[], argTypes := ts } ∧ D.o2.dst = none ∧ D.o2.guard = none
  body0 : D.F0.body = some (.seq (.region D.d0 (D.r0 :: D.os0).toArray false) D.rest0)
  res0 : D.F0.results = #[]
  r0 : ∃ ts, D.r0.op = .call { callee := .builtin .recover, args := #[], argTypes := ts } ∧ D.r0.dst = some D.s0 ∧ D.r0.guard = none

/-- The closure, when recover hands v back. -/
def recRun (E : Env) (K : Caller) (m : Nat) (D : Defer) (v : AV) (caps : List AV) (h : AH) : Option AH :=
  bif Nat.blt D.s0 (max D.F0.ntmps caps.length) then
    match aSeq E K (max D.F0.ntmps caps.length) (D.r0 :: D.os0) D.os0 (setF (frame0 caps) (some D.s0) v) h with
    | some (.go 0 fr h') => match aCode E K m (max D.F0.ntmps caps.length) D.rest0 fr h' with
      | some (.go 0 _ h'') => some h''
      | some (.go 1 _ h'') => some h''
      | _ => none
    | _ => none
  else none

def defSpec (E : Env) (m : Nat) (D : Defer) : Spec := fun K args h =>
  let nt := max D.F.ntmps args.length
  bif Nat.blt D.s nt && (E.fn D.g).isSome then
  match aCode E K m nt D.A1 (frame0 args) h with
  | some (.go 0 fr1 h1) => match aCode E K m nt D.A2 fr1 h1 with
    | some (.go 1 _ h2) => some (.ret (.tup []) h2)
    | some (.go 0 fr2 h2) => match aCode E K m nt D.A3 fr2 h2 with
      | some (.go 0 fr3 h3) =>
        match aCode E K m nt D.G (setF fr3 (some D.s) (.fn (.func D.g) [] [fr3 D.x, fr3 D.y])) h3 with
        | some (.go 0 _ h4) => match recRun E K m D .nili [fr3 D.x, fr3 D.y] h4 with
          | some h5 => some (.ret (.tup []) h5)
          | none => none
        | some (.pan v h4) => match recRun E K m D v [fr3 D.x, fr3 D.y] h4 with
          | some h5 => some (.ret (.tup []) h5)
          | none => none
        | _ => none
      | _ => none
    | _ => none
  | _ => none
  else none

section
variable {P : Program} {E : Env} {B : Nat} {W0 : World}

theorem results_nil {F : Func} (h : F.results = #[]) (tmps : Array Value) (w : World) : (results F tmps).run P w = .ok (.tuple #[]) w := by
  simp [results, h]

theorem recRun_sound (ok : EnvT P E) {K : Caller} (okK : CallOK P E.size K) {m : Nat} {D : Defer} (hD : D.OK) (h0 : P.funcs[D.g]? = some D.F0) {v : AV} {caps : List AV} {h h' : AH} (he : recRun E K m D v caps h = some h')
    {σ : Sig} {w : World} {vs : Array Value} (r : R E.size B W0 σ h w) (hv : VRL σ caps vs.toList) {u u' : FrameMode} {pv : Value} (hpv : VR σ v pv)
    (hu : ∀ c : Frame, c.mode = u → ∀ cs, (recoverD (c :: cs) = some (pv, { c with mode := u' } :: cs)) ∨ (recoverD (c :: cs) = none ∧ pv = .nilIface ∧ u' = u)) :
    CallsD P D.g vs u w fun e u2 w' => e = .returned (.tuple #[]) ∧ u2 = u' ∧ ∃ τ, SE σ τ ∧ R E.size B W0 τ h' w' := by
  unfold recRun at he
  rw [cond_eq_ite] at he
  split at he
  case isFalse => cases he
  rename_i hs0
  obtain ⟨ts, hop, hdst, hgd⟩ := hD.r0
  obtain ⟨hfr, hsz⟩ := frame0_FR hv D.F0.ntmps []
  refine callsD_of_wpS h0 hD.body0 fun c₀ cs hcu => ?_
  refine wpS_seq (wpS_region ?_)
  have hsize : (D.r0 :: D.os0).toArray.size = D.os0.length + 1 := by simp
  rw [hsize, List.range_eq_range', List.range'_succ]
  have hget : (D.r0 :: D.os0).toArray[0]? = some D.r0 := by simp
  simp only [wpOpsS, hget]
  have hwant : Region.wanted D.r0 (yielded (D.r0 :: D.os0).toArray (vs ++ Array.replicate (D.F0.ntmps - vs.size) undef)) = true := by simp [Region.wanted, hgd]
  rw [hwant]
  simp only [if_true]
  have hrun : ∀ (a : Act) (w : World), (execOp a.eval D.r0).run P w = .ok .recover w := fun a w => by
    simp only [execOp, hop, resolve, Sem.run_bind, Sem.run_pure, Result.andThen_ok]
    rfl
  rw [hrun]
  simp only
  -- whatever recover hands back, the frame below is then in mode u'
  have rest : ∀ cs', cs' = { c₀ with mode := u' } :: cs → wpOpsS P (D.r0 :: D.os0).toArray (Exit.thenS (D.rest0.wpS P (bodyPostS P D.F0 c₀ cs fun e u2 w' => e = .returned (.tuple #[]) ∧ u2 = u' ∧ ∃ τ, SE σ τ ∧ R E.size B W0 τ h' w')) (bodyPostS P D.F0 c₀ cs fun e u2 w' => e = .returned (.tuple #[]) ∧ u2 = u' ∧ ∃ τ, SE σ τ ∧ R E.size B W0 τ h' w'))
      (List.range' (0 + 1) D.os0.length) (({ tmps := vs ++ Array.replicate (D.F0.ntmps - vs.size) undef, defers := [] } : Act).put D.r0.dst pv) cs' w := by
    intro cs' hcs
    rw [hdst]
    split at he
    case h_2 => cases he
    rename_i fr1 h1 hseq
    have hput := hfr.put (d := some D.s0) hsz hs0 hpv
    refine aSeqS_sound ok okK (nt := max D.F0.ntmps caps.length) (ds := []) (ops := (D.r0 :: D.os0).toArray) (res := .go 0 fr1 h1) D.os0 (0 + 1) _ h σ w _ (fun j => by simp [Nat.add_comm]) r hput (by rw [Act.size_put]; exact hsz) (by rw [Act.defers_put]) (by simpa using hseq) fun a1 w1 τ se r1 hf1 hn1 hd1 => ?_
    simp only [Exit.thenS]
    refine wpS_of_wp ?_
    split at he
    · rename_i fr2 h2 hc
      cases he
      refine code_sound ok okK D.rest0 r1 hf1 hn1 hd1 hc fun a2 w2 τ2 se2 r2 hf2 hn2 hd2 => ?_
      exact ⟨hd2, u', hcs, _, results_nil hD.res0 _ _, rfl, rfl, τ2, se.trans se2, r2⟩
    · rename_i fr2 h2 hc
      cases he
      refine code_sound ok okK D.rest0 r1 hf1 hn1 hd1 hc fun a2 w2 τ2 se2 r2 hf2 hn2 hd2 => ?_
      exact ⟨hd2, u', hcs, _, results_nil hD.res0 _ _, rfl, rfl, τ2, se.trans se2, r2⟩
    · cases he
  rcases hu c₀ hcu cs with hrec | ⟨hrec, hp, hu'⟩
  · rw [hrec]
    exact rest _ rfl
  · rw [hrec]
    subst hp
    exact rest _ (by rw [hu', ← hcu])

theorem def_sound (ok : EnvT P E) {m : Nat} {D : Defer} (hD : D.OK) {f : FuncId} (hf : P.funcs[f]? = some D.F) (h0 : P.funcs[D.g]? = some D.F0) : SpecAt P E.size f (defSpec E m D) := by
  intro K okK args h out he B W0 σ w vs r hv
  unfold defSpec at he
  simp only at he
  rw [cond_eq_ite] at he
  split at he
  case isFalse => cases he
  rename_i hcond
  simp only [Bool.and_eq_true] at hcond
  obtain ⟨hs, hgs⟩ := hcond
  obtain ⟨Fg, hFg⟩ := Option.isSome_iff_exists.1 hgs
  obtain ⟨hfr, hsz⟩ := frame0_FR hv D.F.ntmps []
  obtain ⟨p1, p2, p3⟩ := hD.o1
  obtain ⟨ts, q1, q2, q3⟩ := hD.o2
  refine calls_of_wp_defers hf hD.body ?_
  split at he
  case h_2 => cases he
  rename_i fr1 h1 e1
  refine wp_seq (code_sound ok okK D.A1 r hfr hsz rfl e1 fun a1 w1 τ1 s1 r1 f1 n1 d1 => ?_)
  simp only [Exit.then]
  split at he
  · -- returns at once
    rename_i fr2 h2 e2
    cases he
    refine wp_seq (code_sound ok okK D.A2 r1 f1 n1 d1 e2 fun a2 w2 τ2 s2 r2 f2 n2 d2 => ?_)
    simp only [Exit.then, bodyPostD, d2, Leaves]
    exact ⟨_, results_nil hD.res _ _, _, τ2, rfl, s1.trans s2, r2, VR.undef _⟩
  · rename_i fr2 h2 e2
    refine wp_seq (code_sound ok okK D.A2 r1 f1 n1 d1 e2 fun a2 w2 τ2 s2 r2 f2 n2 d2 => ?_)
    simp only [Exit.then]
    split at he
    case h_2 => cases he
    rename_i fr3 h3 e3
    refine wp_seq (code_sound ok okK D.A3 r2 f2 n2 d2 e3 fun a3 w3 τ3 s3 r3 f3 n3 d3 => ?_)
    simp only [Exit.then]
    -- the closure is made, and deferred
    refine wp_seq (wp_region ?_)
    have hcl : VR τ3 (.fn (.func D.g) [] [fr3 D.x, fr3 D.y]) (.func (.func D.g) #[] #[a3.tmps.getD D.x undef, a3.tmps.getD D.y undef]) := by
      simp only [VR]
      exact ⟨_, _, rfl, by simp [VRL], by simp only [VRL]; exact ⟨_, _, rfl, f3 D.x, _, _, rfl, f3 D.y, rfl⟩⟩
    have f3' := f3.put (d := some D.s) n3 hs hcl
    have g1 : (a3.put (some D.s) (.func (.func D.g) #[] #[a3.tmps.getD D.x undef, a3.tmps.getD D.y undef])).eval (.tmp D.s) = .func (.func D.g) #[] #[a3.tmps.getD D.x undef, a3.tmps.getD D.y undef] := by
      have := blt_lt hs
      simp only [Act.eval, Act.put]
      rw [Array.getD_eq_getD_getElem?, Array.getElem?_setIfInBounds_self_of_lt (by omega)]
      rfl
    have hsz2 : (#[D.o1, D.o2] : Array Oper).size = 2 := rfl
    have hrange : List.range (#[D.o1, D.o2] : Array Oper).size = [0, 1] := rfl
    rw [hrange, wpOps_cons]
    unfold wpOp
    have i0 : (#[D.o1, D.o2] : Array Oper)[0]? = some D.o1 := rfl
    have i1 : (#[D.o1, D.o2] : Array Oper)[1]? = some D.o2 := rfl
    simp only [i0]
    have w1' : ∀ t, Region.wanted D.o1 (yielded #[D.o1, D.o2] t) = true := fun t => by simp [Region.wanted, p3]
    have w2' : ∀ t, Region.wanted D.o2 (yielded #[D.o1, D.o2] t) = true := fun t => by simp [Region.wanted, q3]
    rw [w1']
    simp only [if_true]
    left
    have run1 : (execOp a3.eval D.o1).run P w3 = .ok (.value (.func (.func D.g) #[] #[a3.tmps.getD D.x undef, a3.tmps.getD D.y undef])) w3 := by
      simp [execOp, p1, Instr.makeFunc, Act.eval]
    unfold Oper.wp
    rw [run1, Oper.upon_value, p2, wpOps_cons]
    unfold wpOp
    simp only [i1]
    rw [w2']
    simp only [if_true]
    left
    unfold Oper.wp
    have run2 : ∀ (w : World), (execOp (a3.put (some D.s) (.func (.func D.g) #[] #[a3.tmps.getD D.x undef, a3.tmps.getD D.y undef])).eval D.o2).run P w = .ok (.defer { target := .fn (.func D.g) #[a3.tmps.getD D.x undef, a3.tmps.getD D.y undef], args := #[] }) w := fun w => by
      simp only [execOp, q1, resolve, g1, Deferred.ofValue, Sem.run_bind, Sem.run_pure, Result.andThen_ok, List.map_toArray, List.map_nil]
      rfl
    rw [run2, Oper.upon_defer, q2]
    simp only [Act.put]
    simp only [wpOps, Exit.then]
    -- the rest
    have capsR : ∀ {τ : Sig}, SE τ3 τ → VRL τ [fr3 D.x, fr3 D.y] (#[a3.tmps.getD D.x undef, a3.tmps.getD D.y undef] : Array Value).toList := fun {τ} se => by
      simp only [VRL]
      exact ⟨_, _, rfl, VR.mono se _ _ (f3 D.x), _, _, rfl, VR.mono se _ _ (f3 D.y), rfl⟩
    have hinv : ∀ (w : World), (invoke (.fn (.func D.g) #[a3.tmps.getD D.x undef, a3.tmps.getD D.y undef]) #[]).run P w = .ok (.enter D.g #[a3.tmps.getD D.x undef, a3.tmps.getD D.y undef]) w := fun w => by
      have := run_callFunc (w := w) ok hFg #[a3.tmps.getD D.x undef, a3.tmps.getD D.y undef]
      simpa [invoke] using this
    have hds : ∀ (a3d : List Deferred), a3d = [] → ({ target := .fn (.func D.g) #[a3.tmps.getD D.x undef, a3.tmps.getD D.y undef], args := #[] } :: a3d : List Deferred) = [{ target := .fn (.func D.g) #[a3.tmps.getD D.x undef, a3.tmps.getD D.y undef], args := #[] }] := fun _ h => by rw [h]
    split at he
    · rename_i fr4 h4 e4
      split at he
      case h_2 => cases he
      rename_i h5 e5
      cases he
      refine code_sound ok okK D.G (ds := [{ target := .fn (.func D.g) #[a3.tmps.getD D.x undef, a3.tmps.getD D.y undef], args := #[] }]) r3 f3' (by simp [n3]) (hds _ d3) e4 fun a4 w4 τ4 s4 r4 f4 n4 d4 => ?_
      simp only [bodyPostD, d4]
      refine leaves_cons (by simp) (hinv _) ?_
      refine (recRun_sound ok okK hD h0 e5 r4 (capsR s4) (u := .returning) (u' := .returning) (pv := .nilIface) (by simp only [VR]) fun c hc cs => .inr ⟨by simp [recoverD, hc], rfl, rfl⟩).mono ?_
      rintro e u2 w5 ⟨rfl, rfl, τ5, s5, r5⟩
      simp only [settle, Leaves]
      exact ⟨_, results_nil hD.res _ _, _, τ5, rfl, ((s1.trans s2).trans s3).trans (s4.trans s5), r5, VR.undef _⟩
    · rename_i v h4 e4
      split at he
      case h_2 => cases he
      rename_i h5 e5
      cases he
      refine code_sound ok okK D.G (ds := [{ target := .fn (.func D.g) #[a3.tmps.getD D.x undef, a3.tmps.getD D.y undef], args := #[] }]) r3 f3' (by simp [n3]) (hds _ d3) e4 fun pv a4 w4 τ4 s4 r4 hpv n4 d4 => ?_
      simp only [bodyPostD, d4]
      refine leaves_cons (by simp) (hinv _) ?_
      refine (recRun_sound ok okK hD h0 e5 r4 (capsR s4) (u := .panicking [{ v := pv, recovered := false }]) (u' := .panicking [{ v := pv, recovered := true }]) (pv := pv) hpv fun c hc cs => .inl (by simp [recoverD, hc])).mono ?_
      rintro e u2 w5 ⟨rfl, rfl, τ5, s5, r5⟩
      simp only [settle, List.dropWhile, Leaves]
      exact ⟨_, results_nil hD.res _ _, _, τ5, rfl, ((s1.trans s2).trans s3).trans (s4.trans s5), r5, VR.undef _⟩
    · cases he
  · cases he
end
end Go.Proofs.Yteblojfcalgoeaa

/- The abstract machine: comparing arrays and structs of plain cells; a deferring function's pieces, read off the program. Conditions: none. -/
namespace Go.Proofs.Yteblojfcalgoeaa
open Go Go.RowKit

def leafTy (P : Program) (t : TypeId) : Option Leaf :=
  match P.underlying t with
  | some (.int _) => some .int
  | some .string => some .str
  | some .bool => some .bool
  | _ => none

def leafFields (P : Program) : Nat → List Field → Option (List Leaf)
  | _, [] => some []
  | k, f :: fs => bif Nat.beq f.offset k && !(f.name == "_") then (match leafTy P f.type, leafFields P (k + 1) fs with
    | some l, some ls => some (l :: ls)
    | _, _ => none) else none

def leafOf (P : Program) (t : TypeId) : Option (List Leaf) :=
  bif P.eqGuardType P.depth t then none else
  match P.underlying t with
  | some (.array n e) => match leafTy P e, P.info? e with
    | some l, some i => bif Nat.beq i.size 1 then some (List.replicate n l) else none
    | _, _ => none
  | some (.struct fs) => bif P.stoodInHeld t then none else leafFields P 0 fs.toList
  | _ => none

section
variable {P : Program} {σ : Sig} {w : World}

theorem leaf_part {e : TypeId} {l : Leaf} (h : leafTy P e = some l) {cs : Array Value} {i : Nat} {v : Value} (hv : cs[i]? = some v) : (part e cs i).run P w = .ok v w := by
  unfold leafTy at h
  split at h <;> first | (rename_i hu; simp [part, isAgg, run_underlying hu, hv]) | cases h

def LeafEq (l : Leaf) (x y : AV) (b : Bool) : Prop :=
  match l with
  | .int => ∃ k a c, x = .int k a ∧ y = .int k c ∧ b = (a == c)
  | .str => ∃ a c, x = .str a ∧ y = .str c ∧ b = (a == c)
  | .bool => ∃ a c, x = .bool a ∧ y = .bool c ∧ b = (a == c)

theorem eqLeaf_cons {l : Leaf} {L : List Leaf} {xs ys : List AV} {b : Bool} (h : eqLeaf (l :: L) xs ys = some b) :
    ∃ x xs' y ys' b1 b2, xs = x :: xs' ∧ ys = y :: ys' ∧ LeafEq l x y b1 ∧ eqLeaf L xs' ys' = some b2 ∧ b = (b1 && b2) := by
  unfold eqLeaf at h
  split at h
  · rename_i h0; cases h0
  · rename_i L' k a xs' k' c ys' hl
    cases hl
    split at h
    case isFalse => cases h
    rename_i hk
    subst hk
    split at h
    case h_2 => cases h
    rename_i r hr
    cases h
    exact ⟨_, _, _, _, _, r, rfl, rfl, ⟨_, _, _, rfl, rfl, rfl⟩, hr, rfl⟩
  · rename_i L' a xs' c ys' hl
    cases hl
    split at h
    case h_2 => cases h
    rename_i r hr
    cases h
    exact ⟨_, _, _, _, _, r, rfl, rfl, ⟨_, _, rfl, rfl, rfl⟩, hr, rfl⟩
  · rename_i L' a xs' c ys' hl
    cases hl
    split at h
    case h_2 => cases h
    rename_i r hr
    cases h
    exact ⟨_, _, _, _, _, r, rfl, rfl, ⟨_, _, rfl, rfl, rfl⟩, hr, rfl⟩
  · cases h

theorem leaf_eq1 {e : TypeId} {l : Leaf} (h : leafTy P e = some l) {x y : AV} {v u : Value} (hx : VR σ x v) (hy : VR σ y u) {b : Bool} (he : LeafEq l x y b) (d : Nat) : (Op.equalIn (d + 1) e v u).run P w = .ok b w := by
  unfold leafTy at h
  split at h
  · rename_i k hu
    cases h
    obtain ⟨k, a, c, rfl, rfl, rfl⟩ := he
    simp only [VR] at hx hy
    subst hx hy
    exact run_equalIn_int w d e _ _ _ _ hu
  · rename_i hu
    cases h
    obtain ⟨a, c, rfl, rfl, rfl⟩ := he
    simp only [VR] at hx hy
    subst hx hy
    rw [run_equalIn_string w d e _ _ hu]
    simp [ByteArray.toList_eq]
  · rename_i hu
    cases h
    obtain ⟨a, c, rfl, rfl, rfl⟩ := he
    simp only [VR] at hx hy
    subst hx hy
    exact run_equalIn_bool' w d e _ _ hu
  · cases h

theorem eq_array {e : TypeId} {l : Leaf} (hl : leafTy P e = some l) {vs us : Array Value} (d : Nat) (K : Sem Bool) : ∀ (n s : Nat) (xs ys : List AV) (b : Bool), (∀ j x, xs[j]? = some x → ∃ v, vs[s + j]? = some v ∧ VR σ x v) → (∀ j x, ys[j]? = some x → ∃ v, us[s + j]? = some v ∧ VR σ x v) →
    eqLeaf (List.replicate n l) xs ys = some b →
    (forIn (List.range' s n 1) (none, ()) (fun i (_ : Option Bool × Unit) => do
        if !(← Op.equalIn (d + 1) e (← part e vs (i * 1)) (← part e us (i * 1))) then pure (ForInStep.done (some false, ())) else pure (ForInStep.yield (none, ())))).run P w = .ok (bif b then (none, ()) else (some false, ())) w
  | 0, s, xs, ys, b, _, _, h => by
      cases xs <;> cases ys <;> simp [eqLeaf] at h
      subst h
      simp
  | n + 1, s, xs, ys, b, hx, hy, h => by
      obtain ⟨x, xs', y, ys', b1, b2, rfl, rfl, h1, h2, rfl⟩ := eqLeaf_cons h
      obtain ⟨v, hv, rv⟩ := hx 0 x rfl
      obtain ⟨u, hu, ru⟩ := hy 0 y rfl
      have pv : (part e vs (s * 1)).run P w = .ok v w := leaf_part hl (by simpa using hv)
      have pu : (part e us (s * 1)).run P w = .ok u w := leaf_part hl (by simpa using hu)
      have ih := eq_array hl d K n (s + 1) xs' ys' b2 (fun j z hz => by have := hx (j + 1) z (by simpa using hz); rwa [show s + 1 + j = s + (j + 1) by omega]) (fun j z hz => by have := hy (j + 1) z (by simpa using hz); rwa [show s + 1 + j = s + (j + 1) by omega]) h2
      rw [List.range'_succ, List.forIn_cons]
      simp only [Sem.run_bind, pv, pu, Result.andThen_ok, leaf_eq1 hl rv ru h1 d]
      cases b1
      · simp
      · simp only [Bool.not_true, Bool.false_eq_true, if_false, Sem.run_pure, Result.andThen_ok, Bool.true_and]
        exact ih

theorem eq_fields {vs us : Array Value} (d : Nat) : ∀ (fs : List Field) (s : Nat) (L : List Leaf) (xs ys : List AV) (b : Bool), leafFields P s fs = some L → (∀ j x, xs[j]? = some x → ∃ v, vs[s + j]? = some v ∧ VR σ x v) → (∀ j x, ys[j]? = some x → ∃ v, us[s + j]? = some v ∧ VR σ x v) →
    eqLeaf L xs ys = some b → (Op.eqFields (d + 1) vs us fs).run P w = .ok b w
  | [], s, L, xs, ys, b, hL, _, _, h => by
      simp [leafFields] at hL; subst hL
      cases xs <;> cases ys <;> simp [eqLeaf] at h
      subst h
      simp [Op.eqFields]
  | f :: fs, s, L, xs, ys, b, hL, hx, hy, h => by
      simp only [leafFields, cond_eq_ite] at hL
      split at hL
      case isFalse => cases hL
      rename_i hc
      simp only [Bool.and_eq_true, Bool.not_eq_true', beq_eq_false_iff_ne] at hc
      have ho := Nat.eq_of_beq_eq_true hc.1
      split at hL
      case h_2 => cases hL
      rename_i l L' hl hL'
      cases hL
      obtain ⟨x, xs', y, ys', b1, b2, rfl, rfl, h1, h2, rfl⟩ := eqLeaf_cons h
      obtain ⟨v, hv, rv⟩ := hx 0 x rfl
      obtain ⟨u, hu, ru⟩ := hy 0 y rfl
      have pv : (part f.type vs f.offset).run P w = .ok v w := leaf_part hl (by rw [ho]; simpa using hv)
      have pu : (part f.type us f.offset).run P w = .ok u w := leaf_part hl (by rw [ho]; simpa using hu)
      have ih := eq_fields d fs (s + 1) L' xs' ys' b2 hL' (fun j z hz => by have := hx (j + 1) z (by simpa using hz); rwa [show s + 1 + j = s + (j + 1) by omega]) (fun j z hz => by have := hy (j + 1) z (by simpa using hz); rwa [show s + 1 + j = s + (j + 1) by omega]) h2
      simp only [Op.eqFields, ne_eq, hc.2, not_false_eq_true, if_true, Sem.run_bind, pv, pu, Result.andThen_ok, leaf_eq1 hl rv ru h1 d]
      cases b1
      · simp
      · simpa using ih

theorem VRL.getA {xs : List AV} {vs : Array Value} (h : VRL σ xs vs.toList) (j : Nat) (x : AV) (hx : xs[j]? = some x) : ∃ v, vs[0 + j]? = some v ∧ VR σ x v := by
  obtain ⟨u, hu, hr⟩ := h.get hx
  exact ⟨u, by rw [Nat.zero_add]; rwa [Array.getElem?_toList] at hu, hr⟩

theorem leafOf_sound {t : TypeId} {L : List Leaf} (h : leafOf P t = some L) : P.eqGuardType P.depth t = false ∧ ∀ (σ : Sig) (xs ys : List AV) (vs us : Array Value) (b : Bool) (w : World), VRL σ xs vs.toList → VRL σ ys us.toList → eqLeaf L xs ys = some b → (Op.equalIn 10000 t (.agg vs) (.agg us)).run P w = .ok b w := by
  unfold leafOf at h
  cases hg : P.eqGuardType P.depth t with
  | true => rw [hg] at h; cases h
  | false =>
    rw [hg] at h
    refine ⟨rfl, fun σ xs ys vs us b w hx hy hb => ?_⟩
    simp only [cond_false] at h
    split at h
    · rename_i n e hu
      split at h
      case h_2 => cases h
      rename_i l i hl hi
      rw [cond_eq_ite] at h
      split at h
      case isFalse => cases h
      rename_i hs
      cases h
      have hsz : ∀ w, (sizeOf e).run P w = .ok 1 w := fun w => by simp [sizeOf, typeInfo, hi, Nat.eq_of_beq_eq_true hs]
      rw [show (10000 : Nat) = 9998 + 1 + 1 from rfl, Op.equalIn]
      simp only [Sem.run_bind, run_underlying hu, Result.andThen_ok, hsz, Std.Legacy.Range.forIn_eq_forIn_range', Std.Legacy.Range.size, Nat.sub_zero, Nat.add_sub_cancel, Nat.div_one]
      have := eq_array (w := w) hl 9998 (pure true) n 0 xs ys b hx.getA hy.getA hb
      cases b
      all_goals
        first
        | (erw [this]; rfl)
        | skip
    · rename_i fs hu
      rw [cond_eq_ite] at h
      split at h
      case isTrue => cases h
      rename_i hp
      have hf : P.fieldsOf t = fs := by simp [Program.fieldsOf, hu]
      rw [show (10000 : Nat) = 9998 + 1 + 1 from rfl, run_equalIn_struct w _ t vs us (by rw [hf]; exact hu) (by simpa using hp), hf]
      exact eq_fields 9998 fs.toList 0 L xs ys b h hx.getA hy.getA hb
    · cases h
end

/-! ## A deferring function's pieces, read off the program -/
def opMake (o : Oper) : Option (Tmp × FuncId × Tmp × Tmp) :=
  match o.dst, o.op, o.guard with
  | some s, .makeFunc (.func g) fst cap, none => match fst.toList, cap.toList with
    | [], [.tmp x, .tmp y] => some (s, g, x, y)
    | _, _ => none
  | _, _, _ => none
def opDefer (o : Oper) : Option Tmp :=
  match o.dst, o.op, o.guard with
  | none, .defer c, none => match c.callee, c.args.toList with
    | .value (.tmp s), [] => some s
    | _, _ => none
  | _, _, _ => none
def opRec (o : Oper) : Option Tmp :=
  match o.dst, o.op, o.guard with
  | some s, .call c, none => match c.callee, c.args.toList with
    | .builtin .recover, [] => some s
    | _, _ => none
  | _, _, _ => none

def deferOf (P : Program) (f g : FuncId) : Option Defer :=
  match P.funcs[f]?, P.funcs[g]? with
  | some F, some F0 =>
    match F.body, F0.body with
    | some (.seq A1 (.seq A2 (.seq A3 (.seq (.region d ops false) G)))), some (.seq (.region d0 ops0 false) rest0) =>
      match ops.toList, ops0.toList, F.results.toList, F0.results.toList with
      | [o1, o2], r0 :: os0, [], [] =>
        match opMake o1, opDefer o2, opRec r0 with
        | some (s, g', x, y), some s', some s0 => bif Nat.beq g g' && Nat.beq s s' then some ⟨F, A1, A2, A3, G, d, o1, o2, s, x, y, g, F0, d0, r0, s0, os0, rest0⟩ else none
        | _, _, _ => none
      | _, _, _, _ => none
    | _, _ => none
  | _, _ => none

theorem arr_nil {α : Type _} {a : Array α} (h : a.toList = []) : a = #[] := by
  apply Array.ext'
  exact h

theorem deferOf_sound {P : Program} {f g : FuncId} {D : Defer} (h : deferOf P f g = some D) : D.OK ∧ P.funcs[f]? = some D.F ∧ P.funcs[D.g]? = some D.F0 := by
  unfold deferOf at h
  split at h
  case h_2 => cases h
  rename_i F F0 hF hF0
  split at h
  case h_2 => cases h
  rename_i A1 A2 A3 d ops G d0 ops0 rest0 hb hb0
  split at h
  case h_2 => cases h
  rename_i o1 o2 r0 os0 e1 e2 e3 e4
  split at h
  case h_2 => cases h
  rename_i s g' x y s' s0 m1 m2 m3
  rw [cond_eq_ite] at h
  split at h
  case isFalse => cases h
  rename_i hc
  simp only [Bool.and_eq_true] at hc
  have hg := Nat.eq_of_beq_eq_true hc.1
  have hs := Nat.eq_of_beq_eq_true hc.2
  subst hg hs
  cases h
  have ho : ops = #[o1, o2] := by
    apply Array.ext'
    exact e1
  have ho0 : ops0 = (r0 :: os0).toArray := by
    apply Array.ext'
    exact e2
  have h5 := arr_nil e3
  have h6 := arr_nil e4
  subst ho ho0
  refine ⟨⟨hb, h5, ?_, ?_, hb0, h6, ?_⟩, hF, hF0⟩
  · unfold opMake at m1
    split at m1
    case h_2 => cases m1
    rename_i s g fst cap hd hop hgd
    split at m1
    case h_2 => cases m1
    rename_i x y q1 q2
    cases m1
    have h1 := arr_nil q1
    have h2 : cap = #[.tmp x, .tmp y] := by apply Array.ext'; exact q2
    subst h1 h2
    exact ⟨hop, hd, hgd⟩
  · unfold opDefer at m2
    split at m2
    case h_2 => cases m2
    rename_i c hd hop hgd
    split at m2
    case h_2 => cases m2
    rename_i s q1 q2
    cases m2
    have h1 := arr_nil q2
    obtain ⟨ce, as, ts⟩ := c
    simp only at q1 h1
    subst q1 h1
    exact ⟨ts, hop, hd, hgd⟩
  · unfold opRec at m3
    split at m3
    case h_2 => cases m3
    rename_i s c hd hop hgd
    split at m3
    case h_2 => cases m3
    rename_i q1 q2
    cases m3
    have h1 := arr_nil q2
    obtain ⟨ce, as, ts⟩ := c
    simp only at q1 h1
    subst q1 h1
    exact ⟨ts, hop, hd, hgd⟩

def deferSpec (P : Program) (E : Env) (m : Nat) (f g : FuncId) : Spec :=
  match deferOf P f g with
  | some D => defSpec E m D
  | none => fun _ _ _ => none

theorem deferSpec_sound {P : Program} {E : Env} (ok : EnvT P E) {m : Nat} {f g : FuncId} : SpecAt P E.size f (deferSpec P E m f g) := by
  intro K okK args h out he
  unfold deferSpec at he
  cases hD : deferOf P f g with
  | some D =>
    rw [hD] at he
    obtain ⟨h1, h2, h3⟩ := deferOf_sound hD
    exact def_sound ok h1 h2 h3 K okK args h out he
  | none => rw [hD] at he; cases he

def spDefer (P : Program) (E : Env) (m : Nat) (f g : FuncId) : FuncId → Option Spec := fun k => bif Nat.beq k f then some (deferSpec P E m f g) else none
theorem spDefer_ok {P : Program} {E : Env} (ok : EnvT P E) {m : Nat} {f g : FuncId} : ∀ k s, spDefer P E m f g k = some s → SpecAt P E.size k s := fun k s h => by
  unfold spDefer at h
  cases hb : Nat.beq k f with
  | true =>
    rw [hb] at h
    cases h
    rw [Nat.eq_of_beq_eq_true hb]
    exact deferSpec_sound ok
  | false => rw [hb] at h; cases h

theorem envOf_leaf_ok {P : Program} (hm : P.follows .mixedOrders = true) : EnvT P (envOf P (leafOf P)) := envOf_ok hm fun _ _ h => leafOf_sound h
end Go.Proofs.Yteblojfcalgoeaa
