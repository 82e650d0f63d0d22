/- Parts of the abstract machine and of its laws, joined. Conditions: none. -/
import Derived.Conc.Holds
import Derived.ProofKit
import Derived.SizedLaws
import Derived.LoneHanded
import Derived.CallAlone
import Derived.Test.YteblojfcalgoeaaQD
import Derived.DataReads
import GoSem.ClaimChange
import Derived.ChangeReads
import Derived.Carry
import Derived.WideShapes
set_option linter.unusedVariables false
set_option linter.unusedSimpArgs false
/- From one goroutine's contract to a law's row that says 'leaving'. Conditions: none. -/
namespace Go.Proofs.Yteblojfcalgoeaa
open Go Go.RowKit

theorem leaving_of_calls {H : Type} {enc : TypeId × Value → H} {a : Assume} {C : Checked} {os : Os} {f : FuncId} {fn : Func} {s : ChangeSpec} {conds : List PathCond} {apart fresh handsOn again : Bool}
    (own : ownKnob C.prog.godebug = none) (started : os.Started) (noInit : C.prog.inits.idxOf? f = none) (hfn : C.prog.funcs[f]? = some fn)
    (witness : ∃ (w : World) (tape : Tape) (i : Input), w.os = os ∧ (w.forCall tape i).Shaped C.prog ∧ i.vars = [] ∧ Input.okWide C.prog (w.forCall tape i) .any w.heap.size f i ∧
      s.pre6 enc C.prog fn conds apart (w.forCall tape i).memory i.args ∧ a.holds C.prog (lone (Frame.enter C.prog f i.args .normal) [] (w.forCall tape i)))
    (contract : ∀ (W : World) (base : Nat) (args : Array Value) (ds gs : List (DataW H)) (before : List MemPlace),
      (∀ (j : Nat) t v, fn.params[j]? = some t → args[j]? = some v → Value.okWide C.prog W .any base t v) →
      DataW.Whole enc C.prog fn.params.toList s.vars apart W args.toList ds gs before →
      conds.all (PathCond.test C.prog ⟨fn.params.toList, ds, s.plain.varTypes C.prog, gs⟩) = true →
      (DataW.weightsEach C.prog (fn.params.toList ++ s.plain.varTypes C.prog) (ds ++ gs)).all (· ≤ reachBytes) = true →
      Calls C.prog f args W fun
        | .returned v, W' => s.post enc C.prog fn apart fresh handsOn again W args v W'
        | _, _ => False) :
    ReturnsInLeavingWide a C os f .any (s.pre6 enc C.prog fn conds apart) (s.post enc C.prog fn apart fresh handsOn again) := by
  refine returnsInLeavingWide_of_good own started witness ?_
  intro w tape i _ _ _ hok hpre hholds
  obtain ⟨_, _, _, fn', hfn', _, _, _, _, hval⟩ := hok
  have e : fn' = fn := Option.some.inj (hfn'.symm.trans hfn)
  subst e
  obtain ⟨⟨ds, gs, before, hw, hc⟩, hz⟩ := hpre
  have hw' := DataW.Whole.of_heap (w' := w.forCall tape i) (by rfl) hw
  obtain ⟨n, v, w', fr, hn, hend, hp⟩ := (contract (w.forCall tape i) w.heap.size i.args ds gs before hval hw' hc (hz.weights hw)).done_lone noInit
  refine ⟨n, lone fr [] w', .done v, w', (runNT C.prog (n + 1) (lone (Frame.enter C.prog f i.args .normal) [] (w.forCall tape i)) #[]).2, Prod.ext ?_ rfl, hn, step_of_runs hn hend, v, rfl, ChangeSpec.post_blind hp, fun said => ?_, handedOver_of_lone hn, ⟨?_, rfl⟩, ?_⟩
  · show (runNT C.prog (n + 1) (lone (Frame.enter C.prog f i.args .normal) [] (w.forCall tape i)) #[]).1 = _
    rw [runNT_fst, hend]
  · exact not_race_of_allBy (allBy_of_lone C.prog n _ _ hn (by simp [lone]) rfl)
  · intro g hg
    simp [lone] at hg
  · intro j g hg hj
    obtain ⟨hlt, _⟩ := Array.getElem?_eq_some_iff.1 hg
    have hlt : j < 1 := hlt
    omega
end Go.Proofs.Yteblojfcalgoeaa

/- The abstract machine: plain data that came in: how an abstract heap is laid for it. Conditions: none. -/
set_option linter.unusedVariables false
namespace Go.Proofs.Yteblojfcalgoeaa
open Go Go.RowKit

/-- The shape of a type of plain data. -/
inductive Sh where
  | int (k : IntKind)
  | str
  | bool
  | sl (e : Sh)
  | agg (l : List Sh)

mutual
def Sh.size : Sh → Nat
  | .int _ => 1
  | .str => 1
  | .bool => 1
  | .sl _ => 1
  | .agg l => sizeL l
def sizeL : List Sh → Nat
  | [] => 0
  | s :: l => s.size + sizeL l
end

mutual
def fitsB (P : Program) : Sh → TypeId → Bool
  | .int k, t => match P.underlying t with | some (.int k') => decide (k' = k) | _ => false
  | .str, t => match P.underlying t with | some .string => true | _ => false
  | .bool, t => match P.underlying t with | some .bool => true | _ => false
  | .sl e, t => match P.underlying t with | some (.slice e') => fitsB P e e' && (Nat.beq (P.cellsOf e') e.size && Nat.blt 0 e.size) | _ => false
  | .agg l, t => match P.underlying t with
    | some (.struct fs) => fitsF P l fs.toList 0 && Nat.beq (P.cellsOf t) (sizeL l)
    | some (.array n e) => fitsA P l e && (Nat.beq l.length n && Nat.beq (P.cellsOf t) (sizeL l))
    | _ => false
def fitsF (P : Program) : List Sh → List Field → Nat → Bool
  | [], [], _ => true
  | s :: l, f :: fs, o => fitsB P s f.type && (Nat.beq f.offset o && (Nat.beq (P.cellsOf f.type) s.size && fitsF P l fs (o + s.size)))
  | _, _, _ => false
def fitsA (P : Program) : List Sh → TypeId → Bool
  | [], _ => true
  | s :: l, e => fitsB P s e && (Nat.beq (P.cellsOf e) s.size && fitsA P l e)
end

mutual
/-- Cells hold data of a shape. -/
def Has (h : AH) : Sh → List AV → Prop
  | .int k, avs => ∃ n, avs = [.int k n] ∧ (Lit.int k n).wf = true
  | .str, avs => ∃ s, avs = [.str s] ∧ s.length ≤ 9223372036854775807
  | .bool, avs => ∃ b, avs = [.bool b]
  | .sl e, avs => ∃ v n cs, avs = [v] ∧ v.atom = true ∧ GS e.size h v n cs ∧ ∀ j, j < n → Has h e ((cs.drop (j * e.size)).take e.size)
  | .agg l, avs => HasL h l avs
def HasL (h : AH) : List Sh → List AV → Prop
  | [], avs => avs = []
  | s :: l, avs => Has h s (avs.take s.size) ∧ HasL h l (avs.drop s.size)
end

mutual
theorem Has.keep {h h' : AH} {S : List Nat} (k : Keep h h' S) (hS : ∀ i ∈ S, h.next ≤ i) : ∀ (s : Sh) (avs : List AV), Has h s avs → Has h' s avs
  | .int _, _, ha => by simpa only [Has] using ha
  | .str, _, ha => by simpa only [Has] using ha
  | .bool, _, ha => by simpa only [Has] using ha
  | .sl e, avs, ha => by
      simp only [Has] at ha ⊢
      obtain ⟨v, n, cs, h1, h2, h3, h4⟩ := ha
      exact ⟨v, n, cs, h1, h2, h3.keep k (fun i hi hx => by have := h3.lt i hi; have := hS i hx; omega), fun j hj => Has.keep k hS e _ (h4 j hj)⟩
  | .agg l, avs, ha => by
      simp only [Has] at ha ⊢
      exact HasL.keep k hS l avs ha
theorem HasL.keep {h h' : AH} {S : List Nat} (k : Keep h h' S) (hS : ∀ i ∈ S, h.next ≤ i) : ∀ (l : List Sh) (avs : List AV), HasL h l avs → HasL h' l avs
  | [], _, ha => by simpa only [HasL] using ha
  | s :: l, avs, ha => by
      simp only [HasL] at ha ⊢
      exact ⟨Has.keep k hS s _ ha.1, HasL.keep k hS l _ ha.2⟩
end
mutual
theorem Has.len {h : AH} : ∀ (s : Sh) (avs : List AV), Has h s avs → avs.length = s.size
  | .int _, avs, ha => by simp only [Has] at ha; obtain ⟨_, rfl, _⟩ := ha; rfl
  | .str, avs, ha => by simp only [Has] at ha; obtain ⟨_, rfl, _⟩ := ha; rfl
  | .bool, avs, ha => by simp only [Has] at ha; obtain ⟨_, rfl⟩ := ha; rfl
  | .sl e, avs, ha => by simp only [Has] at ha; obtain ⟨_, _, _, rfl, _⟩ := ha; rfl
  | .agg l, avs, ha => by
      simp only [Has] at ha
      simp only [Sh.size]
      exact HasL.len l avs ha
theorem HasL.len {h : AH} : ∀ (l : List Sh) (avs : List AV), HasL h l avs → avs.length = sizeL l
  | [], avs, ha => by simp only [HasL] at ha; subst ha; rfl
  | s :: l, avs, ha => by
      simp only [HasL] at ha
      have h1 := Has.len s _ ha.1
      have h2 := HasL.len l _ ha.2
      rw [List.length_take] at h1
      rw [List.length_drop] at h2
      simp only [sizeL]
      omega
end
mutual
theorem Has.atoms {h : AH} : ∀ (s : Sh) (avs : List AV), Has h s avs → avs.all AV.atom = true
  | .int _, avs, ha => by simp only [Has] at ha; obtain ⟨_, rfl, _⟩ := ha; rfl
  | .str, avs, ha => by simp only [Has] at ha; obtain ⟨_, rfl, _⟩ := ha; rfl
  | .bool, avs, ha => by simp only [Has] at ha; obtain ⟨_, rfl⟩ := ha; rfl
  | .sl e, avs, ha => by simp only [Has] at ha; obtain ⟨_, _, _, rfl, h2, _⟩ := ha; simp [h2]
  | .agg l, avs, ha => by
      simp only [Has] at ha
      exact HasL.atoms l avs ha
theorem HasL.atoms {h : AH} : ∀ (l : List Sh) (avs : List AV), HasL h l avs → avs.all AV.atom = true
  | [], avs, ha => by simp only [HasL] at ha; subst ha; rfl
  | s :: l, avs, ha => by
      simp only [HasL] at ha
      have h1 := Has.atoms s _ ha.1
      have h2 := HasL.atoms l _ ha.2
      rw [← List.take_append_drop s.size avs, List.all_append, h1, h2]
      rfl
end

/-- A heap of nothing but what came in. -/
def Given (h : AH) : Prop := ∀ i, i < h.next → ¬ (h.get i).wr

section
variable {size : TypeId → Option Nat} {W : World} {σ : Sig} {h : AH}

/-- Cells that came in are named. -/
theorem R.give (r : R size W.heap.size W σ h W) (hg : Given h) {cs : List AV} {t : TypeId} {p : Place} (hp : p.block < W.heap.size)
    (ho : Rowed W.heap.size (σ.add p) W σ.n cs t .ro size) : R size W.heap.size W (σ.add p) (h.push (.cells cs t .ro)) W ∧ Given (h.push (.cells cs t .ro)) := by
  have hg' : Given (h.push (.cells cs t .ro)) := fun i hi hw => by
    rw [get_push] at hw
    split at hw
    · exact hw rfl
    · rename_i e
      exact hg i (by simp at hi; omega) hw
  refine ⟨⟨r.below, r.hB, by simp [Sig.add, r.n], fun i hi => ?_, fun i j hi hj hne hw hl => absurd hw (hg' i hi)⟩, hg'⟩
  rw [get_push]
  split
  · rename_i e; subst e; rw [← r.n]; exact ho
  · rename_i e
    have hi' : i < h.next := by simp at hi; omega
    exact (r.obj i hi').keep (by rw [r.n]; exact hi') (σ.se_add p) fun _ => rfl

theorem flat_get {α : Type} {sz : Nat} : ∀ (L : List (List α)) (i : Nat) (x : List α), (∀ y ∈ L, y.length = sz) → L[i]? = some x → (L.flatten.drop (i * sz)).take sz = x
  | [], i, x, _, hx => by simp at hx
  | y :: L, 0, x, hl, hx => by
      simp at hx; subst hx
      have := hl y List.mem_cons_self
      simp [← this]
  | y :: L, i + 1, x, hl, hx => by
      have := hl y List.mem_cons_self
      have ih := flat_get L i x (fun z hz => hl z (List.mem_cons_of_mem _ hz)) (by simpa using hx)
      rw [List.flatten_cons, Nat.add_mul, Nat.one_mul, List.drop_append, List.drop_of_length_le (by omega), List.nil_append, this, Nat.add_sub_cancel]
      exact ih
theorem flat_len {α : Type} {sz : Nat} : ∀ (L : List (List α)), (∀ y ∈ L, y.length = sz) → L.flatten.length = L.length * sz
  | [], _ => by simp
  | y :: L, hl => by
      have := hl y List.mem_cons_self
      rw [List.flatten_cons, List.length_append, flat_len L fun z hz => hl z (List.mem_cons_of_mem _ hz), List.length_cons, Nat.add_mul, this]
      omega

theorem mapM_at {α β : Type} {f : α → Option β} {l : List α} {r : List β} (hm : l.mapM f = some r) {i : Nat} {x : α} (hx : l[i]? = some x) : ∃ y, r[i]? = some y ∧ f x = some y := by
  have h1 := mapM_some_get hm i x hx
  have h2 := mapM_some_length hm
  have hlt := (List.getElem?_eq_some_iff.1 hx).1
  have : r[i]? = some (r[i]'(by omega)) := List.getElem?_eq_getElem (by omega)
  exact ⟨_, this, h1.trans this⟩

theorem cells_at {w : World} {base : Nat} {a : Addr} {n : Nat} {cs : List Value} (hc : w.cells? base a n = some cs) : cs.length = n ∧ ∀ k, k < n → ∃ v, cs[k]? = some v ∧ w.cell? (a.add k) = some v := by
  unfold World.cells? at hc
  split at hc
  case isFalse => cases hc
  refine ⟨by rw [mapM_some_length hc]; simp, fun k hk => ?_⟩
  exact mapM_at hc (by simp [hk])

/-- What can be said behind laying out some cells. -/
structure Laid (size : TypeId → Option Nat) (W : World) (σ : Sig) (h : AH) (sh : Sh) (cs : List Value) (avs : List AV) (σ' : Sig) (h' : AH) : Prop where
  se : SE σ σ'
  r : R size W.heap.size W σ' h' W
  g : Given h'
  v : VRL σ' avs cs
  has : Has h' sh avs
  keep : Keep h h' []

/-- Elements one behind the other. -/
theorem lay_seq {sh : Sh} {f : Nat → List Value} {len : Nat} (hall : ∀ i, i < len → ∀ σ h, R size W.heap.size W σ h W → Given h → ∃ avs σ' h', Laid size W σ h sh (f i) avs σ' h') :
    ∀ m, m ≤ len → ∀ σ h, R size W.heap.size W σ h W → Given h → ∃ (L : List (List AV)) (σ' : Sig) (h' : AH), L.length = m ∧ SE σ σ' ∧ R size W.heap.size W σ' h' W ∧ Given h' ∧ Keep h h' [] ∧ ∀ (i : Nat) (x : List AV), L[i]? = some x → VRL σ' x (f i) ∧ Has h' sh x
  | 0, _, σ, h, r, g => ⟨[], σ, h, rfl, SE.refl σ, r, g, Keep.refl h, fun i x hx => by simp at hx⟩
  | m + 1, hm, σ, h, r, g => by
      obtain ⟨L, σ1, h1, e1, e2, e3, e4, e5, e6⟩ := lay_seq hall m (by omega) σ h r g
      obtain ⟨avs, σ2, h2, l⟩ := hall m (by omega) σ1 h1 e3 e4
      refine ⟨L ++ [avs], σ2, h2, by simp [e1], e2.trans l.se, l.r, l.g, (e5.trans l.keep).mono (by simp), fun i x hx => ?_⟩
      rcases Nat.lt_or_ge i m with hi | hi
      · rw [List.getElem?_append_left (by omega)] at hx
        obtain ⟨a, b⟩ := e6 i x hx
        exact ⟨VRL.mono l.se _ _ a, Has.keep l.keep (by simp) _ _ b⟩
      · have hlt := (List.getElem?_eq_some_iff.1 hx).1
        simp [e1] at hlt
        have : i = m := by omega
        subst this
        rw [List.getElem?_append_right (by omega), e1] at hx
        simp at hx
        subst hx
        exact ⟨l.v, l.has⟩

/-- Fields one behind the other. -/
theorem lay_fields : ∀ (l : List Sh) (cs : List Value), cs.length = sizeL l →
    (∀ (s : Sh) (pre post : List Sh), l = pre ++ s :: post → ∀ σ h, R size W.heap.size W σ h W → Given h → ∃ avs σ' h', Laid size W σ h s ((cs.drop (sizeL pre)).take s.size) avs σ' h') →
    ∀ σ h, R size W.heap.size W σ h W → Given h → ∃ (avs : List AV) (σ' : Sig) (h' : AH), SE σ σ' ∧ R size W.heap.size W σ' h' W ∧ Given h' ∧ VRL σ' avs cs ∧ HasL h' l avs ∧ Keep h h' []
  | [], cs, hl, _, σ, h, r, g => ⟨[], σ, h, SE.refl σ, r, g, by simp only [VRL]; exact List.eq_nil_of_length_eq_zero hl, by simp only [HasL], Keep.refl h⟩
  | s :: l, cs, hl, hall, σ, h, r, g0 => by
      simp only [sizeL] at hl
      obtain ⟨a1, σ1, h1, l1⟩ := hall s [] l rfl σ h r g0
      obtain ⟨a2, σ2, h2, b1, b2, b3, b4, b5, b6⟩ := lay_fields l (cs.drop s.size) (by rw [List.length_drop]; omega) (fun s' pre post e σ h r g => by
        obtain ⟨avs, σ', h', q⟩ := hall s' (s :: pre) post (by rw [e]; rfl) σ h r g
        refine ⟨avs, σ', h', ?_⟩
        rw [List.drop_drop]
        exact q) σ1 h1 l1.r l1.g
      have e0 := l1.v
      have hla := Has.len _ _ l1.has
      simp only [sizeL, List.drop_zero] at e0
      refine ⟨a1 ++ a2, σ2, h2, l1.se.trans b1, b2, b3, ?_, ?_, (l1.keep.trans b6).mono (by simp)⟩
      · have := VRL.append (VRL.mono b1 _ _ e0) b4
        rwa [List.take_append_drop] at this
      · simp only [HasL]
        rw [← hla, List.take_left, List.drop_left]
        exact ⟨Has.keep b6 (by simp) _ _ l1.has, b5⟩
end
end Go.Proofs.Yteblojfcalgoeaa

/- The abstract machine: plain data that came in, read by the row's reader, is laid. Conditions: none. -/
set_option linter.unusedVariables false
namespace Go.Proofs.Yteblojfcalgoeaa
open Go Go.RowKit

section
variable {H : Type} {enc : TypeId × Value → H} {P : Program} {W : World} {base : Nat} {sp : Nat → Bool} {held : Bool} {n : Nat} {t : TypeId} {cs : List Value} {x : DataW H × List MemPlace}

theorem td_int {k : IntKind} (hu : P.underlying t = some (.int k)) (h : DataW.trod enc P W base sp held (n + 1) t cs = some x) : ∃ m, cs = [.int k m] ∧ (Lit.int k m).wf = true := by
  unfold DataW.trod at h
  split at h <;> first | (rename_i e; rw [hu] at e; cases e; done) | skip
  · rename_i e
    rw [hu] at e
    cases e
    split at h
    · rename_i h2
      obtain ⟨rfl, h2⟩ := h2
      exact ⟨_, rfl, h2⟩
    · cases h
  · cases h
theorem td_str (hu : P.underlying t = some .string) (h : DataW.trod enc P W base sp held (n + 1) t cs = some x) : ∃ s, cs = [.string s] ∧ s.size ≤ 9223372036854775807 := by
  unfold DataW.trod at h
  split at h <;> first | (rename_i e; rw [hu] at e; cases e; done) | skip
  · split at h
    · rename_i hs
      exact ⟨_, rfl, hs⟩
    · cases h
  · cases h
theorem td_bool (hu : P.underlying t = some .bool) (h : DataW.trod enc P W base sp held (n + 1) t cs = some x) : ∃ b, cs = [.bool b] := by
  unfold DataW.trod at h
  split at h <;> first | (rename_i e; rw [hu] at e; cases e; done) | skip
  · exact ⟨_, rfl⟩
  · cases h
theorem td_sl {e : TypeId} (hu : P.underlying t = some (.slice e)) (h : DataW.trod enc P W base sp held (n + 1) t cs = some x) :
    cs = [.slice none 0 0] ∨ ∃ a len cap, cs = [.slice (some a) len cap] ∧ len ≤ cap ∧ ∀ i, i < len → ∃ ecs y, W.cells? base (a.add (i * P.cellsOf e)) (P.cellsOf e) = some ecs ∧ DataW.trod enc P W base sp held n e ecs = some y := by
  unfold DataW.trod at h
  split at h <;> first | (rename_i e; rw [hu] at e; cases e; done) | skip
  · exact .inl rfl
  · rename_i e
    rw [hu] at e
    cases e
    right
    refine ⟨_, _, _, rfl, ?_⟩
    simp only at h
    split at h
    · rename_i hc
      refine ⟨hc.2.1, fun i hi => ?_⟩
      simp only [Option.bind_eq_some_iff] at h
      obtain ⟨elems, he, _⟩ := h
      obtain ⟨y, _, hy⟩ := mapM_at he (i := i) (x := i) (by simp [hi])
      simp only [Option.bind_eq_some_iff] at hy
      obtain ⟨ecs, h1, h2⟩ := hy
      exact ⟨ecs, y, h1, h2⟩
    · cases h
  · cases h
theorem td_struct {fs : Array Field} (hu : P.underlying t = some (.struct fs)) (h : DataW.trod enc P W base sp held (n + 1) t cs = some x) :
    cs.length = P.cellsOf t ∧ ∀ (j : Nat) (f : Field), fs.toList[j]? = some f → ∃ y, DataW.trod enc P W base sp held n f.type ((cs.drop f.offset).take (P.cellsOf f.type)) = some y := by
  unfold DataW.trod at h
  split at h <;> first | (rename_i e; rw [hu] at e; cases e; done) | skip
  · rename_i e
    rw [hu] at e
    cases e
    split at h
    · rename_i hc
      refine ⟨hc, fun j f hf => ?_⟩
      simp only [Option.map_eq_some_iff] at h
      obtain ⟨xs, hx, _⟩ := h
      obtain ⟨y, _, hy⟩ := mapM_at hx hf
      exact ⟨y, hy⟩
    · cases h
  · cases h
theorem td_array {m : Nat} {e : TypeId} (hu : P.underlying t = some (.array m e)) (h : DataW.trod enc P W base sp held (n + 1) t cs = some x) :
    cs.length = P.cellsOf t ∧ ∀ i, i < m → ∃ y, DataW.trod enc P W base sp held n e ((cs.drop (i * P.cellsOf e)).take (P.cellsOf e)) = some y := by
  unfold DataW.trod at h
  split at h <;> first | (rename_i e; rw [hu] at e; cases e; done) | skip
  · rename_i e
    rw [hu] at e
    cases e
    split at h
    · rename_i hc
      refine ⟨hc, fun i hi => ?_⟩
      simp only [Option.map_eq_some_iff] at h
      obtain ⟨xs, hx, _⟩ := h
      obtain ⟨y, _, hy⟩ := mapM_at hx (i := i) (x := i) (by simp [hi])
      exact ⟨y, hy⟩
    · cases h
  · cases h
end

theorem fitsF_spec {P : Program} : ∀ (l : List Sh) (fs : List Field) (o : Nat), fitsF P l fs o = true → ∀ (s : Sh) (pre post : List Sh), l = pre ++ s :: post → ∃ f, fs[pre.length]? = some f ∧ fitsB P s f.type = true ∧ f.offset = o + sizeL pre ∧ P.cellsOf f.type = s.size
  | [], fs, o, _, s, pre, post, e => by cases pre <;> simp at e
  | s0 :: l, [], o, h, s, pre, post, e => by simp [fitsF] at h
  | s0 :: l, f :: fs, o, h, s, pre, post, e => by
      simp only [fitsF, Bool.and_eq_true] at h
      obtain ⟨h1, h2, h3, h4⟩ := h
      cases pre with
      | nil =>
        simp at e
        obtain ⟨rfl, rfl⟩ := e
        exact ⟨f, rfl, h1, by simpa [sizeL] using Nat.eq_of_beq_eq_true h2, Nat.eq_of_beq_eq_true h3⟩
      | cons p pre =>
        simp at e
        obtain ⟨rfl, rfl⟩ := e
        obtain ⟨f', a, b, c, d⟩ := fitsF_spec _ fs _ h4 s pre post rfl
        exact ⟨f', by simpa using a, b, by rw [c, sizeL, Nat.add_assoc], d⟩
theorem fitsA_spec {P : Program} {e : TypeId} : ∀ (l : List Sh), fitsA P l e = true → ∀ (s : Sh) (pre post : List Sh), l = pre ++ s :: post → fitsB P s e = true ∧ P.cellsOf e = s.size ∧ sizeL pre = pre.length * P.cellsOf e
  | [], _, s, pre, post, e => by cases pre <;> simp at e
  | s0 :: l, h, s, pre, post, e' => by
      simp only [fitsA, Bool.and_eq_true] at h
      obtain ⟨h1, h2, h3⟩ := h
      cases pre with
      | nil =>
        simp at e'
        obtain ⟨rfl, rfl⟩ := e'
        exact ⟨h1, Nat.eq_of_beq_eq_true h2, by simp [sizeL]⟩
      | cons p pre =>
        simp at e'
        obtain ⟨rfl, rfl⟩ := e'
        obtain ⟨a, b, c⟩ := fitsA_spec _ h3 s pre post rfl
        have := Nat.eq_of_beq_eq_true h2
        exact ⟨a, b, by rw [sizeL, c, List.length_cons, Nat.add_mul, this]; omega⟩

section
variable {H : Type} {enc : TypeId × Value → H} {P : Program} {W : World} {sp : Nat → Bool} {held : Bool} {size : TypeId → Option Nat}

theorem lay_same {sh : Sh} {cs : List Value} {avs : List AV} {σ : Sig} {h : AH} (r : R size W.heap.size W σ h W) (g : Given h) (hv : VRL σ avs cs) (hh : Has h sh avs) : ∃ avs σ' h', Laid size W σ h sh cs avs σ' h' :=
  ⟨avs, σ, h, SE.refl σ, r, g, hv, hh, Keep.refl h⟩

theorem lay : ∀ (n : Nat) (sh : Sh) (t : TypeId) (cs : List Value) (x : DataW H × List MemPlace), fitsB P sh t = true → DataW.trod enc P W 0 sp held n t cs = some x → ∀ σ h, R size W.heap.size W σ h W → Given h → ∃ avs σ' h', Laid size W σ h sh cs avs σ' h' := by
  intro n
  induction n with
  | zero => intro sh t cs x _ h; simp [DataW.trod] at h
  | succ n ih =>
    intro sh t cs x hf hx σ h r g
    cases sh with
    | int k =>
      simp only [fitsB] at hf
      split at hf
      case h_2 => cases hf
      rename_i k' hu
      have hk := of_decide_eq_true hf
      subst hk
      obtain ⟨m, rfl, hw⟩ := td_int hu hx
      exact lay_same (avs := [.int k' m]) r g (by simp [VRL, VR]) (by simp only [Has]; exact ⟨m, rfl, hw⟩)
    | str =>
      simp only [fitsB] at hf
      split at hf
      case h_2 => cases hf
      rename_i hu
      obtain ⟨s, rfl, hsz⟩ := td_str hu hx
      exact lay_same (avs := [.str s.data.toList]) r g (by simp [VRL, VR]) (by simp only [Has]; exact ⟨_, rfl, by rw [Array.length_toList]; exact hsz⟩)
    | bool =>
      simp only [fitsB] at hf
      split at hf
      case h_2 => cases hf
      rename_i hu
      obtain ⟨b, rfl⟩ := td_bool hu hx
      exact lay_same (avs := [.bool b]) r g (by simp [VRL, VR]) (by simp only [Has]; exact ⟨_, rfl⟩)
    | agg l =>
      simp only [fitsB] at hf
      split at hf
      case h_3 => cases hf
      case h_1 fs hu =>
        simp only [Bool.and_eq_true] at hf
        obtain ⟨hf1, hf2⟩ := hf
        have hsz := Nat.eq_of_beq_eq_true hf2
        obtain ⟨hl, hall⟩ := td_struct hu hx
        obtain ⟨avs, σ', h', a1, a2, a3, a4, a5, a6⟩ := lay_fields (size := size) (W := W) l cs (by omega) (fun s pre post e σ h r g => by
          obtain ⟨f, b1, b2, b3, b4⟩ := fitsF_spec l fs.toList 0 hf1 s pre post e
          obtain ⟨y, hy⟩ := hall _ f b1
          rw [b3, b4, Nat.zero_add] at hy
          exact ih s f.type _ y b2 hy σ h r g) σ h r g
        exact ⟨avs, σ', h', a1, a2, a3, a4, by simpa only [Has] using a5, a6⟩
      case h_2 m e hu =>
        simp only [Bool.and_eq_true] at hf
        obtain ⟨hf1, hf2, hf3⟩ := hf
        have hm := Nat.eq_of_beq_eq_true hf2
        have hsz := Nat.eq_of_beq_eq_true hf3
        obtain ⟨hl, hall⟩ := td_array hu hx
        obtain ⟨avs, σ', h', a1, a2, a3, a4, a5, a6⟩ := lay_fields (size := size) (W := W) l cs (by omega) (fun s pre post e' σ h r g => by
          obtain ⟨b1, b2, b3⟩ := fitsA_spec l hf1 s pre post e'
          have hlt : pre.length < m := by rw [← hm, e']; simp
          obtain ⟨y, hy⟩ := hall pre.length hlt
          rw [b3, ← b2]
          exact ih s e _ y b1 hy σ h r g) σ h r g
        exact ⟨avs, σ', h', a1, a2, a3, a4, by simpa only [Has] using a5, a6⟩
    | sl e =>
      simp only [fitsB] at hf
      split at hf
      case h_2 => cases hf
      rename_i e' hu
      simp only [Bool.and_eq_true] at hf
      obtain ⟨hf1, hf2, hf3⟩ := hf
      have hsz := Nat.eq_of_beq_eq_true hf2
      have hpos : 0 < e.size := blt_lt hf3
      rcases td_sl hu hx with rfl | ⟨a, len, cap, rfl, hlc, hall⟩
      · exact lay_same (avs := [.nils]) r g (by simp [VRL, VR]) (by simp only [Has]; exact ⟨.nils, 0, [], rfl, rfl, ⟨rfl, rfl⟩, fun j hj => absurd hj (Nat.not_lt_zero j)⟩)
      · rcases Nat.eq_zero_or_pos len with rfl | hlen
        · exact lay_same (avs := [.emp]) r g (by simp [VRL, VR]) (by simp only [Has]; exact ⟨.emp, 0, [], rfl, rfl, ⟨rfl, rfl⟩, fun j hj => absurd hj (Nat.not_lt_zero j)⟩)
        · rw [hsz] at hall
          have hex : ∀ i, ∃ ecs : List Value, i < len → ∃ y, W.cells? 0 (a.add (i * e.size)) e.size = some ecs ∧ DataW.trod enc P W 0 sp held n e' ecs = some y := fun i => by
            by_cases hi : i < len
            · obtain ⟨ecs, y, h1, h2⟩ := hall i hi
              exact ⟨ecs, fun _ => ⟨y, h1, h2⟩⟩
            · exact ⟨[], fun h => absurd h hi⟩
          obtain ⟨f, hf⟩ := Classical.axiomOfChoice hex
          obtain ⟨L, σ1, h1, e1, e2, e3, e4, e5, e6⟩ := lay_seq (size := size) (W := W) (sh := e) (f := f) (len := len) (fun i hi σ h r g => by
            obtain ⟨y, _, hy⟩ := hf i hi
            exact ih e e' _ y hf1 hy σ h r g) len (Nat.le_refl _) σ h r g
          -- the slice's array begins at a cell
          have h00 : a.spot = none ∧ a.block < W.heap.size := by
            obtain ⟨y, hc, _⟩ := hf 0 hlen
            obtain ⟨_, hk⟩ := cells_at hc
            obtain ⟨v, _, hv⟩ := hk 0 hpos
            have : (a.add (0 * e.size)).add 0 = a := by simp [Addr.add]
            rw [this] at hv
            unfold World.cell? at hv
            split at hv
            · rename_i c t fr hb
              refine ⟨?_, block_lt hb⟩
              cases hs : a.spot with
              | none => rfl
              | some s => rw [hs] at hv; simp at hv
            · cases hv
          have hadd : ∀ i k, (a.add i).add k = ⟨a.block, a.off + (i + k), none⟩ := fun i k => by
            obtain ⟨b, o, s⟩ := a
            simp only at h00
            obtain ⟨rfl, _⟩ := h00
            simp only [Addr.add]
            by_cases hi : i = 0 <;> by_cases hk : k = 0 <;> simp [hi, hk, Nat.add_assoc]
          have hLl : ∀ y ∈ L, y.length = e.size := fun y hy => by
            obtain ⟨i, hi⟩ := List.mem_iff_getElem?.1 hy
            exact Has.len e y (e6 i y hi).2
          obtain ⟨σ2, hσ2⟩ : ∃ σ2, σ2 = σ1.add ⟨a.block, a.off, cap⟩ := ⟨_, rfl⟩
          have se2 : SE σ1 σ2 := by rw [hσ2]; exact σ1.se_add _
          have hrow : Rowed W.heap.size (σ1.add ⟨a.block, a.off, cap⟩) W σ1.n L.flatten e' .ro size := by
            refine ⟨?_⟩
            obtain ⟨y, hc, _⟩ := hf 0 hlen
            obtain ⟨_, hk⟩ := cells_at hc
            obtain ⟨v, _, hv⟩ := hk 0 hpos
            rw [hadd] at hv
            unfold World.cell? at hv
            split at hv
            case h_2 => cases hv
            rename_i c t fr hb
            refine ⟨c, t, fr, by rw [σ1.at_add]; exact hb, fun k v hv => ?_, fun hne => absurd rfl hne⟩
            have hkl : k < len * e.size := by
              have := (List.getElem?_eq_some_iff.1 hv).1
              rwa [flat_len L hLl, e1] at this
            have hi : k / e.size < len := Nat.div_lt_of_lt_mul (by rwa [Nat.mul_comm] at hkl)
            have hj : k % e.size < e.size := Nat.mod_lt _ hpos
            have hk2 : k = k / e.size * e.size + k % e.size := by rw [Nat.mul_comm]; exact (Nat.div_add_mod k e.size).symm
            have hLi : L[k / e.size]? = some (L[k / e.size]'(by omega)) := List.getElem?_eq_getElem (by omega)
            have hfl := flat_get L _ _ hLl hLi
            obtain ⟨g1, _⟩ := e6 _ _ hLi
            obtain ⟨y', hc', _⟩ := hf _ hi
            obtain ⟨hl', hk'⟩ := cells_at hc'
            obtain ⟨u, hu1, hu2⟩ := hk' _ hj
            have hv2 : (L[k / e.size]'(by omega))[k % e.size]? = some v := by
              rw [← hfl, List.getElem?_take, if_pos hj, List.getElem?_drop, ← hk2]; exact hv
            obtain ⟨z, hz, hr⟩ := g1.get hv2
            rw [hu1] at hz
            cases hz
            refine ⟨u, ?_, by rw [← hσ2]; exact VR.mono se2 _ _ hr⟩
            rw [hadd, ← hk2] at hu2
            unfold World.cell? at hu2
            rw [hb] at hu2
            rw [σ1.at_add]
            simpa using hu2
          obtain ⟨r2, g2⟩ := R.give (size := size) (cs := L.flatten) (t := e') (p := ⟨a.block, a.off, cap⟩) e3 e4 h00.2 hrow
          refine ⟨[.sl h1.next 0 len cap false], σ1.add ⟨a.block, a.off, cap⟩, h1.push (.cells L.flatten e' .ro), e2.trans (σ1.se_add _), r2, g2, ?_, ?_, (e5.trans (Keep.push _ _)).mono (by simp)⟩
          · simp only [VRL, VR]
            refine ⟨_, [], rfl, ⟨by simp [Sig.add, e3.n], ?_⟩, rfl⟩
            simp only [Bool.false_eq_true, if_false]
            refine ⟨?_, hlc⟩
            have : (σ1.add ⟨a.block, a.off, cap⟩).addr h1.next 0 = a := by
              unfold Sig.addr
              rw [← e3.n, σ1.at_add]
              obtain ⟨b, o, s⟩ := a
              simp only at h00
              simp [h00.1]
            rw [this]
          · simp only [Has]
            have hfl := flat_len L hLl
            rw [e1] at hfl
            have hgs : GS e.size (h1.push (.cells L.flatten e' .ro)) (.sl h1.next 0 len cap false) len L.flatten :=
              ⟨⟨rfl, fun _ => hlc⟩, hfl, Nat.lt_succ_self _, L.flatten, e', .ro, get_push_new rfl, by rw [Nat.zero_add, hfl]; exact Nat.le_refl _, by rw [List.drop_zero]; exact List.take_of_length_le (Nat.le_of_eq hfl)⟩
            refine ⟨.sl h1.next 0 len cap false, len, L.flatten, rfl, rfl, hgs, fun j hj => ?_⟩
            have hLi : L[j]? = some (L[j]'(by omega)) := List.getElem?_eq_getElem (by omega)
            rw [flat_get L j _ hLl hLi]
            exact Has.keep (Keep.push h1 _) (by simp) _ _ (e6 _ _ hLi).2
end
end Go.Proofs.Yteblojfcalgoeaa

/- From a law's contract on the abstract machine to its row. Conditions: none. -/
set_option linter.unusedVariables false
namespace Go.Proofs.Yteblojfcalgoeaa
open Go Go.RowKit Go.ChangeShapes Go.WideShapes

def argV : Sh → List AV → AV
  | .agg _, avs => .agg avs
  | _, a :: _ => a
  | _, [] => .bad
def argsV : List Sh → List (List AV) → List AV
  | s :: ss, a :: as => argV s a :: argsV ss as
  | _, _ => []
def HasAll (h : AH) : List Sh → List (List AV) → Prop
  | [], [] => True
  | s :: ss, a :: as => Has h s a ∧ HasAll h ss as
  | _, _ => False
def fitsAll (P : Program) : List Sh → List TypeId → Bool
  | [], [] => true
  | s :: ss, t :: ts => fitsB P s t && fitsAll P ss ts
  | _, _ => false
theorem HasAll.keep {h h' : AH} (k : Keep h h' []) : ∀ (ss : List Sh) (as : List (List AV)), HasAll h ss as → HasAll h' ss as
  | [], [], _ => trivial
  | s :: ss, a :: as, hh => ⟨Has.keep k (by simp) s a hh.1, HasAll.keep k ss as hh.2⟩
  | [], _ :: _, hh => hh.elim
  | _ :: _, [], hh => hh.elim

section
variable {P : Program} {W : World} {σ : Sig} {h : AH}
theorem arg_VR {sh : Sh} {t : TypeId} {v : Value} {r : Go.Reach} {base : Nat} {avs : List AV} (hf : fitsB P sh t = true) (hv : Value.okWide P W r base t v) (hr : VRL σ avs v.cells.toList) (hh : Has h sh avs) : VR σ (argV sh avs) v := by
  have one : (∀ cs, v ≠ .agg cs) → v.cells = #[v] := fun hn => by
    cases v <;> first | rfl | exact absurd rfl (hn _)
  cases sh with
  | int k =>
    simp only [fitsB] at hf
    split at hf
    case h_2 => cases hf
    rename_i k' hu
    have : ∀ cs, v ≠ .agg cs := fun cs e => by subst e; simp [Value.okWide, hu, Cell.okWide, Cell.ok] at hv
    rw [one this] at hr
    simp only [Has] at hh
    obtain ⟨n, rfl, _⟩ := hh
    simp only [VRL] at hr
    obtain ⟨y, ys, e, hr, _⟩ := hr
    simp at e
    rw [← e.1] at hr; exact hr
  | str =>
    simp only [fitsB] at hf
    split at hf
    case h_2 => cases hf
    rename_i hu
    have : ∀ cs, v ≠ .agg cs := fun cs e => by subst e; simp [Value.okWide, hu, Cell.okWide, Cell.ok] at hv
    rw [one this] at hr
    simp only [Has] at hh
    obtain ⟨n, rfl, _⟩ := hh
    simp only [VRL] at hr
    obtain ⟨y, ys, e, hr, _⟩ := hr
    simp at e
    rw [← e.1] at hr; exact hr
  | bool =>
    simp only [fitsB] at hf
    split at hf
    case h_2 => cases hf
    rename_i hu
    have : ∀ cs, v ≠ .agg cs := fun cs e => by subst e; simp [Value.okWide, hu, Cell.okWide, Cell.ok] at hv
    rw [one this] at hr
    simp only [Has] at hh
    obtain ⟨n, rfl⟩ := hh
    simp only [VRL] at hr
    obtain ⟨y, ys, e, hr, _⟩ := hr
    simp at e
    rw [← e.1] at hr; exact hr
  | sl e =>
    simp only [fitsB] at hf
    split at hf
    case h_2 => cases hf
    rename_i e' hu
    have : ∀ cs, v ≠ .agg cs := fun cs e => by subst e; simp [Value.okWide, hu, Cell.okWide, Cell.ok] at hv
    rw [one this] at hr
    simp only [Has] at hh
    obtain ⟨u, n, cs, rfl, _⟩ := hh
    simp only [VRL] at hr
    obtain ⟨y, ys, e, hr, _⟩ := hr
    simp at e
    rw [← e.1] at hr; exact hr
  | agg l =>
    simp only [fitsB] at hf
    split at hf
    case h_3 => cases hf
    case h_1 fs hu =>
      simp only [Value.okWide, hu] at hv
      obtain ⟨cs, rfl, _⟩ := hv
      simp only [argV, VR]
      exact ⟨cs, rfl, hr⟩
    case h_2 n e hu =>
      simp only [Value.okWide, hu] at hv
      obtain ⟨cs, rfl, _⟩ := hv
      simp only [argV, VR]
      exact ⟨cs, rfl, hr⟩

theorem lay_args {H : Type} {enc : TypeId × Value → H} {sp : Nat → Bool} {held : Bool} {size : TypeId → Option Nat} {r : Go.Reach} {base : Nat} : ∀ (ss : List Sh) (ts : List TypeId) (vs : List Value) (ds : List (DataW H)) (ps : List MemPlace), fitsAll P ss ts = true → DataW.TrodAll enc P W 0 sp held ts vs ds ps →
    (∀ (j : Nat) (t : TypeId) (v : Value), ts[j]? = some t → vs[j]? = some v → Value.okWide P W r base t v) → ∀ σ h, R size W.heap.size W σ h W → Given h →
    ∃ (L : List (List AV)) (σ' : Sig) (h' : AH), SE σ σ' ∧ R size W.heap.size W σ' h' W ∧ Given h' ∧ Keep h h' [] ∧ VRL σ' (argsV ss L) vs ∧ HasAll h' ss L
  | [], ts, vs, ds, ps, hf, ht, hv, σ, h, r, g => by
      cases ts with
      | cons t ts => simp [fitsAll] at hf
      | nil =>
        obtain ⟨rfl, _, _⟩ := trodAll_nil ht
        exact ⟨[], σ, h, SE.refl σ, r, g, Keep.refl h, by simp [argsV, VRL], trivial⟩
  | s :: ss, ts, vs, ds, ps, hf, ht, hv, σ, h, r, g => by
      cases ts with
      | nil => simp [fitsAll] at hf
      | cons t ts =>
        simp only [fitsAll, Bool.and_eq_true] at hf
        cases vs with
        | nil => cases ds <;> simp [DataW.TrodAll] at ht
        | cons v vs =>
          cases ds with
          | nil => simp [DataW.TrodAll] at ht
          | cons d ds =>
            obtain ⟨p, q, ⟨fuel, h1⟩, h2, _⟩ := ht
            obtain ⟨avs, σ1, h1', l⟩ := lay fuel s t v.cells.toList _ hf.1 h1 σ h r g
            obtain ⟨L, σ2, h2', b1, b2, b3, b4, b5, b6⟩ := lay_args ss ts vs ds q hf.2 h2 (fun j t v hj hv' => hv (j + 1) t v (by simpa using hj) (by simpa using hv')) σ1 h1' l.r l.g
            refine ⟨avs :: L, σ2, h2', l.se.trans b1, b2, b3, (l.keep.trans b4).mono (by simp), ?_, Has.keep b4 (by simp) _ _ l.has, b6⟩
            simp only [argsV, VRL]
            exact ⟨v, vs, rfl, VR.mono b1 _ _ (arg_VR hf.1 (hv 0 t v rfl rfl) l.v l.has), b5⟩
end

/-- A law's contract: whatever came in, it answers true. -/
def LawCon (E : Env) (sp : FuncId → Option Spec) (m d : Nat) (f : FuncId) (ss : List Sh) : Prop :=
  ∀ (h : AH) (L : List (List AV)), HasAll h ss L → Con E sp m d f (argsV ss L) h fun o => ∃ h', o = .ret (.bool true) h'

theorem law_calls {P : Program} {E : Env} {sp : FuncId → Option Spec} (ok : EnvT P E) (hsp : ∀ f s, sp f = some s → SpecAt P E.size f s) {m d : Nat} {f : FuncId} {ss : List Sh} (con : LawCon E sp m d f ss)
    {H : Type} {enc : TypeId × Value → H} {W : World} {r : Go.Reach} {base : Nat} {ts : List TypeId} {args : Array Value} {ds : List (DataW H)} {ps : List MemPlace} (hf : fitsAll P ss ts = true)
    (ht : DataW.TrodAll enc P W 0 (fun _ => true) true ts args.toList ds ps) (hv : ∀ (j : Nat) (t : TypeId) (v : Value), ts[j]? = some t → args.toList[j]? = some v → Value.okWide P W r base t v) :
    Calls P f args W fun e W' => e = .returned (.bool true) ∧ Below W.heap.size W W' := by
  have r0 : R E.size W.heap.size W ⟨0, fun _ => ⟨0, 0, 0⟩⟩ AH.empty W := ⟨Below.refl _ _, Nat.le_refl _, rfl, fun i hi => absurd hi (Nat.not_lt_zero _), fun i j hi => absurd hi (Nat.not_lt_zero _)⟩
  obtain ⟨L, σ', h', _, r1, _, _, hvr, hh⟩ := lay_args ss ts args.toList ds ps hf ht hv _ _ r0 (fun i hi => absurd hi (Nat.not_lt_zero _))
  obtain ⟨out, ho, h2, rfl⟩ := con h' L hh d (Nat.le_refl _)
  refine (call_sound ok hsp d f _ h' _ ho W.heap.size W σ' W args r1 hvr).mono fun e w' hr => ?_
  obtain ⟨x, τ, rfl, _, r2, hx⟩ := hr
  simp only [VR] at hx
  exact ⟨by rw [hx], r2.below⟩

theorem below_all {H : Type} {enc : TypeId × Value → H} {P : Program} (hl : laidOutB P = true) {W W' : World} (hb : Below W.heap.size W W') : ∀ (ts : List TypeId) (vs : List Value) (ds : List (DataW H)) (ps : List MemPlace),
    (ts.all fun t => P.readableRec t && Nat.blt t P.types.size) = true → DataW.TrodAll enc P W 0 (fun _ => true) true ts vs ds ps → (∀ p ∈ ps, p.block < W.heap.size) → DataW.TrodAll enc P W' 0 (fun b => decide (b < W.heap.size)) true ts vs ds ps
  | [], vs, ds, ps, _, ht, _ => by
      obtain ⟨rfl, rfl, rfl⟩ := trodAll_nil ht
      exact rfl
  | t :: ts, vs, ds, ps, hr, ht, hp => by
      simp only [List.all_cons, Bool.and_eq_true] at hr
      cases vs with
      | nil => cases ds <;> simp [DataW.TrodAll] at ht
      | cons v vs =>
        cases ds with
        | nil => simp [DataW.TrodAll] at ht
        | cons d ds =>
          obtain ⟨p, q, h1, h2, rfl⟩ := ht
          exact ⟨p, q, Below.trod hl hr.1.1 (blt_lt hr.1.2) h1 hb (fun x hx => hp x (List.mem_append_left _ hx)), below_all hl hb ts vs ds q (by simpa using hr.2) h2 (fun x hx => hp x (List.mem_append_right _ hx)), rfl⟩

theorem law_leaving {H : Type} {enc : TypeId × Value → H} {C : Checked} {os : Os} {f : FuncId} {fn : Func} {s : ChangeSpec} {fresh handsOn : Bool} {E : Env} {sp : FuncId → Option Spec} {m d : Nat} {ss : List Sh} {rt : TypeId}
    (own : ownKnob C.prog.godebug = none) (started : os.Started) (noInit : C.prog.inits.idxOf? f = none) (hfn : C.prog.funcs[f]? = some fn)
    (witness : ∃ (w : World) (tape : Tape) (i : Input), w.os = os ∧ (w.forCall tape i).Shaped C.prog ∧ i.vars = [] ∧ Input.okWide C.prog (w.forCall tape i) .any w.heap.size f i ∧
      s.pre6 enc C.prog fn [] false (w.forCall tape i).memory i.args ∧ ({} : Assume).holds C.prog (lone (Frame.enter C.prog f i.args .normal) [] (w.forCall tape i)))
    (ok : EnvT C.prog E) (hsp : ∀ f s, sp f = some s → SpecAt C.prog E.size f s) (con : LawCon E sp m d f ss) (hl : laidOutB C.prog = true) (hfit : fitsAll C.prog ss fn.params.toList = true)
    (hread : (fn.params.toList.all fun t => C.prog.readableRec t && Nat.blt t C.prog.types.size) = true) (hres : fn.resultTypes = #[rt]) (hrt : C.prog.underlying rt = some .bool)
    (hvars : s.vars = []) (hspec : ∀ ds : List (DataW H), ds.length = fn.params.toList.length → s.fn H ds = { results := [.lit (.bool true)], args := ds }) :
    ReturnsInLeavingWide {} C os f .any (s.pre6 enc C.prog fn [] false) (s.post enc C.prog fn false fresh handsOn false) := by
  refine leaving_of_calls own started noInit hfn witness ?_
  intro W base args ds gs before hval hW _ _
  have hlt := hW.lt
  have hW' := hW
  obtain ⟨p, q, hA, hV, rfl, _, _⟩ := hW
  rw [hvars] at hV
  have hgs : gs = [] ∧ q = [] := by
    cases gs with
    | nil => exact ⟨rfl, hV⟩
    | cons g gs => simp [DataW.TrodVars] at hV
  obtain ⟨rfl, rfl⟩ := hgs
  have hlen : ds.length = fn.params.toList.length := by
    have : ∀ (ts : List TypeId) (vs : List Value) (ds : List (DataW H)) (ps : List MemPlace), DataW.TrodAll enc C.prog W 0 (fun _ => true) true ts vs ds ps → ds.length = ts.length := by
      intro ts
      induction ts with
      | nil => intro vs ds ps h; obtain ⟨_, rfl, _⟩ := trodAll_nil h; rfl
      | cons t ts ih =>
        intro vs ds ps h
        cases vs with
        | nil => cases ds <;> simp [DataW.TrodAll] at h
        | cons v vs =>
          cases ds with
          | nil => simp [DataW.TrodAll] at h
          | cons d ds =>
            obtain ⟨_, _, _, h2, _⟩ := h
            simp [ih _ _ _ h2]
    exact this _ _ _ _ hA
  have hval' : ∀ (j : Nat) (t : TypeId) (v : Value), fn.params.toList[j]? = some t → args.toList[j]? = some v → Value.okWide C.prog W .any base t v := fun j t v h1 h2 => hval j t v (by simpa using h1) (by simpa using h2)
  refine (law_calls ok hsp con hfit hA hval').mono fun e W' hr => ?_
  obtain ⟨rfl, hb⟩ := hr
  have hspec' := hspec ds hlen
  refine ⟨ds, [], p ++ [], [], p, [], hW', ?_, ?_, ?_, hb.frame _, fun h => by cases h⟩
  · rw [List.append_nil, hspec', hres]
    exact trodAll_mk1 (shut_bool hrt true)
  · rw [List.append_nil, hspec']
    exact below_all hl hb _ _ _ _ hread hA (fun x hx => hlt x (by simp [hx]))
  · rw [List.append_nil, hspec', hvars]
    exact rfl
end Go.Proofs.Yteblojfcalgoeaa
