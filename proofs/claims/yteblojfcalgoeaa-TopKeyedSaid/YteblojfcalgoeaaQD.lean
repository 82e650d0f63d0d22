/- Parts of the abstract machine and of its laws, joined. Conditions: none. -/
import Derived.Test.YteblojfcalgoeaaQC
import Derived.Laws.Bits64
import Derived.Laws.BitsLemmas
set_option linter.unusedVariables false
set_option linter.unusedSimpArgs false
/- The abstract machine: a lean form of the code, and what it comes to, as a predicate to be walked. Conditions: none. -/
namespace Go.Proofs.Yteblojfcalgoeaa
open Go Go.RowKit

/-- One operation: where its answer goes, what guards it; 'keep': what it reads is to be held against later effects; 'chk': which readings it must leave. -/
structure LOp where
  dst : Option Tmp
  op : Op
  g : Option (Tmp × Bool)
  q : Bool
  idx : Nat
  keep : Bool
  chk : List Nat

inductive LC where
  | skip
  | ops (l : List LOp)
  | seq (a b : LC)
  | cond (c : Operand) (a b : LC)
  | block (id : Nat) (b : LC)
  | loop (b : LC)
  | exit (id : Nat)
  | ret
  | bad

def readsH : Op → Bool
  | .load .. | .convert .. | .lookup .. | .call _ => true
  | _ => false

def guardOf (ops : List Oper) (o : Oper) : Option (Option (Tmp × Bool)) :=
  match o.guard with
  | none => some none
  | some (j, want) => match ops[j]? with
    | some g => match g.dst with
      | some t => some (some (t, want))
      | none => none
    | none => none

def seqOps (E : Env) (nt : Nat) (ops : List Oper) : List Oper → Option (List LOp)
  | [] => some []
  | o :: r => match okD nt o.dst, guardOf ops o, seqOps E nt ops r with
    | true, some g, some l => some (⟨o.dst, o.op, g, quietOp E o.op, 0, false, []⟩ :: l)
    | _, _, _ => none

def drawOps (E : Env) (prec : Nat → Nat → Bool) (nt : Nat) (ops : List Oper) : List Nat → List Nat → Option (List LOp)
  | [], _ => some []
  | i :: r, kept => match ops[i]? with
    | some o =>
      let q := quietOp E o.op
      let keep := q && (readsH o.op && r.any (fun j => !quietAt E ops j && !prec i j))
      match okD nt o.dst, guardOf ops o, drawOps E prec nt ops r (bif keep then i :: kept else kept) with
      | true, some g, some l => some (⟨o.dst, o.op, g, q, i, keep, bif q then [] else kept.filter (fun j => !prec j i)⟩ :: l)
      | _, _, _ => none
    | none => none

def slimR (E : Env) (nt : Nat) (ops : Array Oper) (draw : Bool) : Option (List LOp) :=
  match draw with
  | false => seqOps E nt ops.toList ops.toList
  | true => match planFor E ops with
    | some ord => drawOps E (precOf (masks ops.toList [])) nt ops.toList ord []
    | none => none

def slim (E : Env) (nt : Nat) : Code → LC
  | .skip => .skip
  | .region _ ops draw => match slimR E nt ops draw with
    | some l => .ops l
    | none => .bad
  | .seq a b => .seq (slim E nt a) (slim E nt b)
  | .cond c a b => .cond c (slim E nt a) (slim E nt b)
  | .block id b => .block id (slim E nt b)
  | .loop b => .loop (slim E nt b)
  | .exit id => .exit id
  | .ret => .ret
  | .label _ => .skip
  | .scope b => slim E nt b
  | _ => .bad

/-! ### What it comes to -/
structure Pend where
  idx : Nat
  fr : Nat → AV
  op : Op
  v : AV

def wPend (E : Env) (chk : List Nat) (h : AH) : List Pend → Prop
  | [] => True
  | p :: ps => (chk.contains p.idx = true → qStep E p.fr h p.op = some p.v) ∧ wPend E chk h ps

def wWant (fr : Nat → AV) : Option (Tmp × Bool) → Option Bool
  | none => some true
  | some (t, want) => match fr t with
    | .bool b => some (b == want)
    | .tup _ => some false
    | _ => none

def aStep (E : Env) (K : Caller) (q : Bool) (fr : Nat → AV) (h : AH) (op : Op) : Option SR :=
  match q with
  | true => match qStep E fr h op with
    | some v => some (.val v h)
    | none => none
  | false => aOper E K fr h op

def onWant (w : Option Bool) (a b : Prop) : Prop :=
  match w with
  | some true => a
  | some false => b
  | none => False
def onStep (s : Option SR) (kv kp : AV → AH → Prop) : Prop :=
  match s with
  | some (.val v h) => kv v h
  | some (.pan v h) => kp v h
  | none => False
def onBool (v : AV) (a b : Prop) : Prop :=
  match v with
  | .bool true => a
  | .bool false => b
  | _ => False

def wOps (E : Env) (K : Caller) (Q : CR → Prop) : List LOp → List Pend → (Nat → AV) → AH → Prop
  | [], _, fr, h => Q (.go 0 fr h)
  | o :: r, ps, fr, h =>
    onWant (wWant fr o.g)
      (onStep (aStep E K o.q fr h o.op)
        (fun v h' => wPend E o.chk h' ps ∧ wOps E K Q r (bif o.keep then ⟨o.idx, fr, o.op, v⟩ :: ps else ps) (setF fr o.dst v) h')
        (fun v h' => Q (.pan v h')))
      (wOps E K Q r ps (setF fr o.dst (.tup [])) h)

/-- Behind the first of two pieces. -/
def SeqQ (k : (Nat → AV) → AH → Prop) (Q : CR → Prop) : CR → Prop
  | .go 0 fr h => k fr h
  | .go (n + 1) fr h => Q (.go (n + 1) fr h)
  | .pan v h => Q (.pan v h)
/-- Behind a block's body. -/
def BlockQ (id : Nat) (Q : CR → Prop) : CR → Prop
  | .go (k + 2) fr h => bif Nat.beq k id then Q (.go 0 fr h) else Q (.go (k + 2) fr h)
  | .go 1 fr h => Q (.go 1 fr h)
  | .go 0 fr h => Q (.go 0 fr h)
  | .pan v h => Q (.pan v h)

def wLoop (f : (Nat → AV) → AH → (CR → Prop) → Prop) : Nat → (Nat → AV) → AH → (CR → Prop) → Prop
  | 0, _, _, _ => False
  | n + 1, fr, h, Q => f fr h (SeqQ (fun fr' h' => wLoop f n fr' h' Q) Q)

def wCode (E : Env) (K : Caller) (m : Nat) : LC → (Nat → AV) → AH → (CR → Prop) → Prop
  | .skip, fr, h, Q => Q (.go 0 fr h)
  | .ops l, fr, h, Q => wOps E K Q l [] fr h
  | .seq a b, fr, h, Q => wCode E K m a fr h (SeqQ (fun fr' h' => wCode E K m b fr' h' Q) Q)
  | .cond c a b, fr, h, Q => onBool (ev fr c) (wCode E K m a fr h Q) (wCode E K m b fr h Q)
  | .block id b, fr, h, Q => wCode E K m b fr h (BlockQ id Q)
  | .loop b, fr, h, Q => wLoop (wCode E K m b) m fr h Q
  | .exit id, fr, h, Q => Q (.go (id + 2) fr h)
  | .ret, fr, h, Q => Q (.go 1 fr h)
  | .bad, _, _, _ => False

def onRes (v : Option AV) (k : AV → Prop) : Prop :=
  match v with
  | some v => k v
  | none => False

/-- At a function's end. -/
def BodyQ (E : Env) (F : Func) (Q : Out → Prop) : CR → Prop
  | .go 0 fr h => onRes (aResults E F fr h) fun v => Q (.ret v h)
  | .go 1 fr h => onRes (aResults E F fr h) fun v => Q (.ret v h)
  | .go (_ + 2) _ _ => False
  | .pan v h => Q (.pan v h)

def bodyOf (F : Func) : Code := match F.body with | some c => c | none => .skip

def wBody (E : Env) (K : Caller) (m : Nat) (F : Func) (args : List AV) (h : AH) (Q : Out → Prop) : Prop :=
  F.body.isSome = true ∧ wCode E K m (slim E (max F.ntmps args.length) (bodyOf F)) (frame0 args) h (BodyQ E F Q)

/-! ### Soundness -/
mutual
theorem AV.eqv_refl : ∀ a : AV, AV.eqv a a = true
  | .bool a => by simp [AV.eqv]
  | .int k a => by simp [AV.eqv]
  | .str a => by simp [AV.eqv]
  | .ptr i o => by simp [AV.eqv]
  | .nilp => by simp [AV.eqv]
  | .sl i o n c l => by simp [AV.eqv]
  | .emp => by simp [AV.eqv]
  | .nils => by simp [AV.eqv]
  | .map i => by simp [AV.eqv]
  | .nilm => by simp [AV.eqv]
  | .fn f a b => by simp [AV.eqv, AV.eqvL_refl a, AV.eqvL_refl b]
  | .nilf => by simp [AV.eqv]
  | .iface t v => by simp [AV.eqv, AV.eqv_refl v]
  | .nili => by simp [AV.eqv]
  | .agg a => by simp [AV.eqv, AV.eqvL_refl a]
  | .tup a => by simp [AV.eqv, AV.eqvL_refl a]
  | .bad => by simp [AV.eqv]
theorem AV.eqvL_refl : ∀ a : List AV, AV.eqvL a a = true
  | [] => by simp [AV.eqvL]
  | x :: xs => by simp [AV.eqvL, AV.eqv_refl x, AV.eqvL_refl xs]
end

section
variable {E : Env} {K : Caller} {Q : CR → Prop} {nt : Nat}

theorem aStep_aOper {fr : Nat → AV} {h : AH} {op : Op} {sr : SR} (he : aStep E K (quietOp E op) fr h op = some sr) : aOper E K fr h op = some sr := by
  unfold aStep at he
  cases hq : quietOp E op with
  | false => rw [hq] at he; exact he
  | true =>
    rw [hq] at he
    simp only at he
    cases hs : qStep E fr h op with
    | none => rw [hs] at he; cases he
    | some v =>
      rw [hs] at he
      cases he
      unfold aOper
      cases op
      case panic => simp [quietOp] at hq
      case call c =>
        simp only [quietOp] at hq
        simp only [qStep] at hs
        split at hq
        · rename_i e; simp only [e, hs]
        · rename_i e; simp only [e, hs]
        · rename_i e; simp only [e, hs]
        · cases hq
      all_goals simp only [hs]

theorem guardOf_spec {ops : List Oper} {o : Oper} {g : Option (Tmp × Bool)} (h : guardOf ops o = some g) (fr : Nat → AV) : aWanted ops fr o = wWant fr g := by
  unfold guardOf at h
  unfold aWanted
  split at h
  · rename_i e; cases h; simp [e, wWant]
  · rename_i j want e
    rw [e]
    simp only
    split at h
    · rename_i x hx
      rw [hx]
      simp only
      split at h
      · rename_i t ht
        rw [ht]
        cases h
        rfl
      · cases h
    · cases h

theorem seqOps_cons {ops : List Oper} {o : Oper} {r : List Oper} {L : List LOp} (h : seqOps E nt ops (o :: r) = some L) :
    ∃ g l, okD nt o.dst = true ∧ guardOf ops o = some g ∧ seqOps E nt ops r = some l ∧ L = ⟨o.dst, o.op, g, quietOp E o.op, 0, false, []⟩ :: l := by
  simp only [seqOps] at h
  split at h
  · rename_i g l h1 h2 h3; cases h; exact ⟨g, l, h1, h2, h3, rfl⟩
  · cases h

theorem wOps_seq {ops : List Oper} : ∀ (l : List Oper) (L : List LOp) (ps : List Pend) (fr : Nat → AV) (h : AH), seqOps E nt ops l = some L → wOps E K Q L ps fr h → ∃ r, aSeq E K nt ops l fr h = some r ∧ Q r
  | [], L, ps, fr, h, he, hw => by
      simp [seqOps] at he; subst he
      exact ⟨_, rfl, hw⟩
  | o :: l, L, ps, fr, h, he, hw => by
      obtain ⟨g, l', h1, h2, h3, rfl⟩ := seqOps_cons he
      simp only [wOps] at hw
      simp only [aSeq, h1, guardOf_spec h2]
      cases hg : wWant fr g with
      | none => rw [hg] at hw; exact hw.elim
      | some b =>
        rw [hg] at hw
        cases b
        · exact wOps_seq l l' ps _ h h3 hw
        · simp only [onWant] at hw ⊢
          cases hs : aStep E K (quietOp E o.op) fr h o.op with
          | none => rw [hs] at hw; exact hw.elim
          | some sr =>
            rw [hs] at hw
            rw [aStep_aOper hs]
            cases sr with
            | val v h' => exact wOps_seq l l' _ _ h' h3 hw.2
            | pan v h' => exact ⟨_, rfl, hw⟩

theorem drawOps_cons {prec : Nat → Nat → Bool} {ops : List Oper} {i : Nat} {r kept : List Nat} {L : List LOp} (h : drawOps E prec nt ops (i :: r) kept = some L) :
    ∃ o g l kp, ops[i]? = some o ∧ okD nt o.dst = true ∧ guardOf ops o = some g ∧ kp = (quietOp E o.op && (readsH o.op && r.any (fun j => !quietAt E ops j && !prec i j))) ∧ drawOps E prec nt ops r (bif kp then i :: kept else kept) = some l ∧ L = ⟨o.dst, o.op, g, quietOp E o.op, i, kp, bif quietOp E o.op then [] else kept.filter (fun j => !prec j i)⟩ :: l := by
  simp only [drawOps] at h
  split at h
  · rename_i o ho
    split at h
    · rename_i g l h1 h2 h3; cases h; exact ⟨o, g, l, _, ho, h1, h2, rfl, h3, rfl⟩
    · cases h
  · cases h

theorem wPend_spec {chk : List Nat} {h : AH} : ∀ {ps : List Pend}, wPend E chk h ps → ∀ p ∈ ps, chk.contains p.idx = true → qStep E p.fr h p.op = some p.v
  | [], _, _, hp, _ => by cases hp
  | q :: ps, hw, p, hp, hc => by
      rcases List.mem_cons.1 hp with rfl | hp
      · exact hw.1 hc
      · exact wPend_spec hw.2 p hp hc

theorem qStep_heap {fr : Nat → AV} {op : Op} (hr : readsH op = false) (h h' : AH) : qStep E fr h' op = qStep E fr h op := by
  cases op <;> simp only [readsH, reduceCtorEq] at hr <;> rfl

theorem wOps_draw {prec : Nat → Nat → Bool} {ops : List Oper} : ∀ (l : List Nat) (kept : List Nat) (L : List LOp) (ps : List Pend) (past : Past) (fr : Nat → AV) (h : AH), drawOps E prec nt ops l kept = some L →
    (∀ p ∈ ps, p.idx ∈ kept) → (∀ i ∈ l, quietAt E ops i = false → ∀ h', (∀ p ∈ ps, prec p.idx i = false → qStep E p.fr h' p.op = some p.v) → past i h' = true) →
    wOps E K Q L ps fr h → ∃ r, aDraw E K prec nt ops l past fr h = some r ∧ Q r
  | [], kept, L, ps, past, fr, h, he, _, _, hw => by
      simp [drawOps] at he; subst he
      exact ⟨_, rfl, hw⟩
  | i :: l, kept, L, ps, past, fr, h, he, hk, hp, hw => by
      obtain ⟨o, g, l', kp, h0, h1, h2, hkp, h3, rfl⟩ := drawOps_cons he
      have hqa : quietAt E ops i = quietOp E o.op := by simp [quietAt, h0]
      simp only [wOps] at hw
      simp only [aDraw, h0, h1, guardOf_spec h2]
      cases hg : wWant fr g with
      | none => rw [hg] at hw; exact hw.elim
      | some b =>
        rw [hg] at hw
        cases b
        · simp only [onWant] at hw ⊢
          refine wOps_draw l _ l' ps past _ h h3 (fun p hpp => ?_) (fun j hj hq => hp j (List.mem_cons_of_mem _ hj) hq) hw
          cases kp
          · exact hk p hpp
          · exact List.mem_cons_of_mem _ (hk p hpp)
        · simp only [onWant] at hw ⊢
          cases hq : quietOp E o.op with
          | true =>
            rw [hq] at hw
            simp only [aStep, cond_true] at hw ⊢
            cases hs : qStep E fr h o.op with
            | none => rw [hs] at hw; exact hw.elim
            | some v =>
              rw [hs] at hw
              simp only [onStep] at hw ⊢
              refine wOps_draw l _ l' _ _ _ h h3 (fun p hpp => ?_) (fun j hj hqj h' hall => ?_) hw.2
              · cases kp
                · exact hk p hpp
                · rcases List.mem_cons.1 hpp with rfl | hpp
                  · exact List.mem_cons_self
                  · exact List.mem_cons_of_mem _ (hk p hpp)
              · simp only [Bool.and_eq_true, Bool.or_eq_true]
                refine ⟨hp j (List.mem_cons_of_mem _ hj) hqj h' fun p hpp => hall p (by cases kp <;> simp [hpp]), ?_⟩
                cases hpr : prec i j with
                | true => exact .inl rfl
                | false =>
                  right
                  have hst : qStep E fr h' o.op = some v := by
                    cases hr : readsH o.op with
                    | false => rw [qStep_heap hr h h']; exact hs
                    | true =>
                      have : kp = true := by
                        rw [hkp, hq, hr]
                        simp only [Bool.true_and, List.any_eq_true]
                        exact ⟨j, hj, by rw [hqj, hpr]; rfl⟩
                      subst this
                      exact hall ⟨i, fr, o.op, v⟩ (by simp) hpr
                  rw [hst]
                  exact AV.eqv_refl v
          | false =>
            rw [hq] at hw
            simp only [aStep, cond_false] at hw ⊢
            cases hs : aOper E K fr h o.op with
            | none => rw [hs] at hw; exact hw.elim
            | some sr =>
              rw [hs] at hw
              have hkp' : kp = false := by rw [hkp, hq]; rfl
              subst hkp'
              cases sr with
              | val v h' =>
                simp only [onStep] at hw ⊢
                have hpast : past i h' = true := by
                  refine hp i List.mem_cons_self (by rw [hqa]; exact hq) h' fun p hpp hpr => ?_
                  refine wPend_spec hw.1 p hpp ?_
                  simp only [List.contains_iff_mem, List.mem_filter]
                  exact ⟨hk p hpp, by rw [hpr]; rfl⟩
                rw [hpast]
                simp only [cond_true]
                exact wOps_draw l _ l' _ _ _ h' h3 hk (fun j hj hq => hp j (List.mem_cons_of_mem _ hj) hq) hw.2
              | pan v h' => exact ⟨_, rfl, hw⟩

theorem wOps_region {ops : Array Oper} {draw : Bool} {L : List LOp} (he : slimR E nt ops draw = some L) {fr : Nat → AV} {h : AH} (hw : wOps E K Q L [] fr h) : ∃ r, aRegion E K nt ops draw fr h = some r ∧ Q r := by
  unfold slimR at he
  unfold aRegion
  cases draw with
  | false => exact wOps_seq _ _ _ _ _ he hw
  | true =>
    simp only at he ⊢
    cases hp : planFor E ops with
    | none => rw [hp] at he; cases he
    | some ord =>
      rw [hp] at he
      exact wOps_draw _ _ _ _ _ _ _ he (fun p hp => by cases hp) (fun _ _ _ _ _ => rfl) hw

theorem wLoop_sound {f : (Nat → AV) → AH → (CR → Prop) → Prop} {g : (Nat → AV) → AH → Option CR} (hf : ∀ fr h Q, f fr h Q → ∃ r, g fr h = some r ∧ Q r) : ∀ (n : Nat) (fr : Nat → AV) (h : AH) (Q : CR → Prop), wLoop f n fr h Q → ∃ r, aLoop g n fr h = some r ∧ Q r
  | 0, _, _, _, hw => hw.elim
  | n + 1, fr, h, Q, hw => by
      simp only [wLoop] at hw
      obtain ⟨r, hr, hq⟩ := hf _ _ _ hw
      simp only [aLoop, hr]
      cases r with
      | pan v h' => exact ⟨_, rfl, hq⟩
      | go ex fr' h' =>
        cases ex with
        | zero => exact wLoop_sound hf n fr' h' Q hq
        | succ k => exact ⟨_, rfl, hq⟩

theorem wCode_sound {m : Nat} : ∀ (c : Code) (fr : Nat → AV) (h : AH) (Q : CR → Prop), wCode E K m (slim E nt c) fr h Q → ∃ r, aCode E K m nt c fr h = some r ∧ Q r
  | .skip, fr, h, Q, hw => ⟨_, rfl, hw⟩
  | .region id ops draw, fr, h, Q, hw => by
      simp only [slim] at hw
      cases hs : slimR E nt ops draw with
      | none => rw [hs] at hw; exact hw.elim
      | some L => rw [hs] at hw; exact wOps_region hs hw
  | .seq a b, fr, h, Q, hw => by
      simp only [slim, wCode] at hw
      obtain ⟨r, hr, hq⟩ := wCode_sound a fr h _ hw
      simp only [aCode, hr]
      cases r with
      | pan v h' => exact ⟨_, rfl, hq⟩
      | go ex fr' h' =>
        cases ex with
        | zero => exact wCode_sound b fr' h' Q hq
        | succ k => exact ⟨_, rfl, hq⟩
  | .cond c a b, fr, h, Q, hw => by
      simp only [slim, wCode] at hw
      simp only [aCode]
      unfold onBool at hw
      split at hw
      · rename_i e; rw [e]; exact wCode_sound a fr h Q hw
      · rename_i e; rw [e]; exact wCode_sound b fr h Q hw
      · exact hw.elim
  | .block id b, fr, h, Q, hw => by
      simp only [slim, wCode] at hw
      obtain ⟨r, hr, hq⟩ := wCode_sound b fr h _ hw
      simp only [aCode, hr]
      cases r with
      | pan v h' => exact ⟨_, rfl, hq⟩
      | go ex fr' h' =>
        match ex with
        | 0 => exact ⟨_, rfl, hq⟩
        | 1 => exact ⟨_, rfl, hq⟩
        | k + 2 =>
          simp only [BlockQ] at hq ⊢
          cases hb : Nat.beq k id
          · rw [hb] at hq; exact ⟨_, rfl, hq⟩
          · rw [hb] at hq; exact ⟨_, rfl, hq⟩
  | .loop b, fr, h, Q, hw => by
      simp only [slim, wCode] at hw
      simp only [aCode]
      exact wLoop_sound (fun fr h Q hw => wCode_sound b fr h Q hw) m fr h Q hw
  | .exit id, fr, h, Q, hw => ⟨_, rfl, hw⟩
  | .ret, fr, h, Q, hw => ⟨_, rfl, hw⟩
  | .label _, fr, h, Q, hw => ⟨_, rfl, hw⟩
  | .scope b, fr, h, Q, hw => wCode_sound b fr h Q hw
  | .goto .., fr, h, Q, hw => hw.elim
  | .rangeFunc .., fr, h, Q, hw => hw.elim

theorem wBody_sound {m : Nat} {F : Func} {args : List AV} {h : AH} {Q : Out → Prop} (hw : wBody E K m F args h Q) : ∃ out, aBody E K m F args h = some out ∧ Q out := by
  unfold wBody at hw
  unfold aBody
  cases hb : F.body with
  | none => rw [hb] at hw; cases hw.1
  | some c =>
    have hw := hw.2
    simp only [bodyOf, hb] at hw
    obtain ⟨r, hr, hq⟩ := wCode_sound c _ _ _ hw
    simp only [hr]
    cases r with
    | pan v h' => exact ⟨_, rfl, hq⟩
    | go ex fr' h' =>
      match ex with
      | 0 =>
        simp only [BodyQ] at hq ⊢
        cases hv : aResults E F fr' h' with
        | none => rw [hv] at hq; exact hq.elim
        | some v => rw [hv] at hq; exact ⟨_, rfl, hq⟩
      | 1 =>
        simp only [BodyQ] at hq ⊢
        cases hv : aResults E F fr' h' with
        | none => rw [hv] at hq; exact hq.elim
        | some v => rw [hv] at hq; exact ⟨_, rfl, hq⟩
      | k + 2 => exact hq.elim

/-- What a call comes to, at any depth that is great enough. -/
def Con (E : Env) (sp : FuncId → Option Spec) (m d : Nat) (f : FuncId) (args : List AV) (h : AH) (Q : Out → Prop) : Prop :=
  ∀ n, d ≤ n → ∃ out, aCall E sp m n f args h = some out ∧ Q out

theorem Con.of_body {sp : FuncId → Option Spec} {m d : Nat} {f : FuncId} {F : Func} {args : List AV} {h : AH} {Q : Out → Prop} (hs : sp f = none) (hF : E.fn f = some F) (hw : ∀ n, d ≤ n → wBody E (aCall E sp m n) m F args h Q) : Con E sp m (d + 1) f args h Q := by
  intro n hn
  obtain ⟨k, rfl⟩ : ∃ k, n = k + 1 := ⟨n - 1, by omega⟩
  simp only [aCall, hs, hF]
  exact wBody_sound (hw k (by omega))

theorem Con.mono {sp : FuncId → Option Spec} {m d : Nat} {f : FuncId} {args : List AV} {h : AH} {Q Q' : Out → Prop} (hc : Con E sp m d f args h Q) (hq : ∀ o, Q o → Q' o) {d' : Nat} (hd : d ≤ d') : Con E sp m d' f args h Q' := fun n hn => by
  obtain ⟨o, h1, h2⟩ := hc n (by omega)
  exact ⟨o, h1, hq o h2⟩
end
end Go.Proofs.Yteblojfcalgoeaa

/- The abstract machine: rules for walking the lean form. Conditions: none. -/
set_option linter.unusedVariables false
namespace Go.Proofs.Yteblojfcalgoeaa
open Go Go.RowKit

section
variable {E : Env} {K : Caller} {m : Nat}

theorem onWant_mono {w : Option Bool} {a b a' b' : Prop} (ha : a → a') (hb : b → b') (h : onWant w a b) : onWant w a' b' := by
  unfold onWant at *
  split at h
  · exact ha h
  · exact hb h
  · exact h
theorem onStep_mono {s : Option SR} {a b a' b' : AV → AH → Prop} (ha : ∀ v h, a v h → a' v h) (hb : ∀ v h, b v h → b' v h) (h : onStep s a b) : onStep s a' b' := by
  unfold onStep at *
  split at h
  · exact ha _ _ h
  · exact hb _ _ h
  · exact h
theorem onBool_mono {v : AV} {a b a' b' : Prop} (ha : a → a') (hb : b → b') (h : onBool v a b) : onBool v a' b' := by
  unfold onBool at *
  split at h
  · exact ha h
  · exact hb h
  · exact h

theorem wOps_mono {Q Q' : CR → Prop} (hq : ∀ r, Q r → Q' r) : ∀ (l : List LOp) (ps : List Pend) (fr : Nat → AV) (h : AH), wOps E K Q l ps fr h → wOps E K Q' l ps fr h
  | [], _, _, _, hw => hq _ hw
  | o :: l, ps, fr, h, hw => by
      simp only [wOps] at hw ⊢
      exact onWant_mono (onStep_mono (fun v h' hx => ⟨hx.1, wOps_mono hq l _ _ _ hx.2⟩) (fun v h' hx => hq _ hx)) (wOps_mono hq l _ _ _) hw

theorem SeqQ_mono {k k' : (Nat → AV) → AH → Prop} {Q Q' : CR → Prop} (hk : ∀ fr h, k fr h → k' fr h) (hq : ∀ r, Q r → Q' r) : ∀ r, SeqQ k Q r → SeqQ k' Q' r
  | .go 0 fr h, hr => hk _ _ hr
  | .go (n + 1) fr h, hr => hq _ hr
  | .pan v h, hr => hq _ hr

theorem wLoop_mono {f : (Nat → AV) → AH → (CR → Prop) → Prop} (hf : ∀ fr h Q Q', (∀ r, Q r → Q' r) → f fr h Q → f fr h Q') {Q Q' : CR → Prop} (hq : ∀ r, Q r → Q' r) : ∀ (n : Nat) (fr : Nat → AV) (h : AH), wLoop f n fr h Q → wLoop f n fr h Q'
  | 0, _, _, hw => hw
  | n + 1, fr, h, hw => hf _ _ _ _ (SeqQ_mono (fun fr h hx => wLoop_mono hf hq n fr h hx) hq) hw

theorem wCode_mono : ∀ (c : LC) (fr : Nat → AV) (h : AH) (Q Q' : CR → Prop), (∀ r, Q r → Q' r) → wCode E K m c fr h Q → wCode E K m c fr h Q'
  | .skip, _, _, _, _, hq, hw => hq _ hw
  | .ops l, fr, h, _, _, hq, hw => wOps_mono hq l [] fr h hw
  | .seq a b, fr, h, Q, Q', hq, hw => wCode_mono a fr h _ _ (SeqQ_mono (fun fr h hx => wCode_mono b fr h Q Q' hq hx) hq) hw
  | .cond c a b, fr, h, Q, Q', hq, hw => onBool_mono (wCode_mono a fr h Q Q' hq) (wCode_mono b fr h Q Q' hq) hw
  | .block id b, fr, h, Q, Q', hq, hw => by
      refine wCode_mono b fr h (BlockQ id Q) (BlockQ id Q') (fun r hr => ?_) hw
      match r, hr with
      | .go 0 fr h, hr => exact hq _ hr
      | .go 1 fr h, hr => exact hq _ hr
      | .go (k + 2) fr h, hr =>
        simp only [BlockQ] at hr ⊢
        cases hb : Nat.beq k id
        · rw [hb] at hr; exact hq _ hr
        · rw [hb] at hr; exact hq _ hr
      | .pan v h, hr => exact hq _ hr
  | .loop b, fr, h, Q, Q', hq, hw => wLoop_mono (fun fr h Q Q' hq hw => wCode_mono b fr h Q Q' hq hw) hq m fr h hw
  | .exit id, _, _, _, _, hq, hw => hq _ hw
  | .ret, _, _, _, _, hq, hw => hq _ hw
  | .bad, _, _, _, _, _, hw => hw

/-- A loop, by a measure that falls. -/
theorem wLoop_inv {b : LC} (I : Nat → (Nat → AV) → AH → Prop) {Q : CR → Prop} (step : ∀ k fr h, I k fr h → wCode E K m b fr h (SeqQ (fun fr' h' => ∃ k', k' < k ∧ I k' fr' h') Q)) : ∀ (n k : Nat) (fr : Nat → AV) (h : AH), k < n → I k fr h → wLoop (wCode E K m b) n fr h Q
  | 0, _, _, _, hk, _ => absurd hk (Nat.not_lt_zero _)
  | n + 1, k, fr, h, hk, hi => by
      refine wCode_mono b fr h _ _ (SeqQ_mono (fun fr' h' hx => ?_) fun _ hr => hr) (step k fr h hi)
      obtain ⟨k', h1, h2⟩ := hx
      exact wLoop_inv I step n k' _ _ (by omega) h2

/-! ### Rules for simp: one step at a time, nothing ahead of its time (what is still to come is data, not a function) -/
def stepK (E : Env) (K : Caller) (Q : CR → Prop) (s : Option SR) (o : LOp) (r : List LOp) (ps : List Pend) (fr : Nat → AV) : Prop :=
  onStep s (fun v h' => wPend E o.chk h' ps ∧ wOps E K Q r (bif o.keep then ⟨o.idx, fr, o.op, v⟩ :: ps else ps) (setF fr o.dst v) h') (fun v h' => Q (.pan v h'))
def wantK (E : Env) (K : Caller) (Q : CR → Prop) (w : Option Bool) (o : LOp) (r : List LOp) (ps : List Pend) (fr : Nat → AV) (h : AH) : Prop :=
  onWant w (stepK E K Q (aStep E K o.q fr h o.op) o r ps fr) (wOps E K Q r ps (setF fr o.dst (.tup [])) h)
def condK (E : Env) (K : Caller) (m : Nat) (v : AV) (a b : LC) (fr : Nat → AV) (h : AH) (Q : CR → Prop) : Prop := onBool v (wCode E K m a fr h Q) (wCode E K m b fr h Q)
def SeqC (E : Env) (K : Caller) (m : Nat) (b : LC) (Q : CR → Prop) : CR → Prop := SeqQ (fun fr' h' => wCode E K m b fr' h' Q) Q
def resK (v : Option AV) (h : AH) (Q : Out → Prop) : Prop := onRes v fun v => Q (.ret v h)

@[go_sem] theorem wOps_nil {Q : CR → Prop} {ps : List Pend} {fr : Nat → AV} {h : AH} : wOps E K Q [] ps fr h = Q (.go 0 fr h) := (rfl)
@[go_sem] theorem wOps_cons {Q : CR → Prop} {ps : List Pend} {fr : Nat → AV} {h : AH} {d : Option Tmp} {op : Op} {g : Option (Tmp × Bool)} {q kp : Bool} {ix : Nat} {chk : List Nat} {r : List LOp} :
    wOps E K Q (⟨d, op, g, q, ix, kp, chk⟩ :: r) ps fr h = wantK E K Q (wWant fr g) ⟨d, op, g, q, ix, kp, chk⟩ r ps fr h := (rfl)
@[go_sem] theorem wantK_true {Q : CR → Prop} {ps : List Pend} {fr : Nat → AV} {h : AH} {d : Option Tmp} {op : Op} {g : Option (Tmp × Bool)} {q kp : Bool} {ix : Nat} {chk : List Nat} {r : List LOp} :
    wantK E K Q (some true) ⟨d, op, g, q, ix, kp, chk⟩ r ps fr h = stepK E K Q (aStep E K q fr h op) ⟨d, op, g, q, ix, kp, chk⟩ r ps fr := (rfl)
@[go_sem] theorem wantK_false {Q : CR → Prop} {ps : List Pend} {fr : Nat → AV} {h : AH} {d : Option Tmp} {op : Op} {g : Option (Tmp × Bool)} {q kp : Bool} {ix : Nat} {chk : List Nat} {r : List LOp} :
    wantK E K Q (some false) ⟨d, op, g, q, ix, kp, chk⟩ r ps fr h = wOps E K Q r ps (setF fr d (.tup [])) h := (rfl)
theorem wantK_intro {Q : CR → Prop} {ps : List Pend} {fr : Nat → AV} {h : AH} {o : LOp} {r : List LOp} {c : Bool} (h1 : c = true → wantK E K Q (some true) o r ps fr h) (h2 : c = false → wantK E K Q (some false) o r ps fr h) : wantK E K Q (some c) o r ps fr h := by
  cases c
  · exact h2 rfl
  · exact h1 rfl
@[go_sem] theorem stepK_val {Q : CR → Prop} {ps : List Pend} {fr : Nat → AV} {h' : AH} {v : AV} {d : Option Tmp} {op : Op} {g : Option (Tmp × Bool)} {q kp : Bool} {ix : Nat} {chk : List Nat} {r : List LOp} :
    stepK E K Q (some (.val v h')) ⟨d, op, g, q, ix, kp, chk⟩ r ps fr = (wPend E chk h' ps ∧ wOps E K Q r (bif kp then ⟨ix, fr, op, v⟩ :: ps else ps) (setF fr d v) h') := (rfl)
@[go_sem] theorem stepK_pan {Q : CR → Prop} {ps : List Pend} {fr : Nat → AV} {h' : AH} {v : AV} {o : LOp} {r : List LOp} : stepK E K Q (some (.pan v h')) o r ps fr = Q (.pan v h') := (rfl)
@[go_sem] theorem condK_true {Q : CR → Prop} {fr : Nat → AV} {h : AH} {a b : LC} : condK E K m (.bool true) a b fr h Q = wCode E K m a fr h Q := (rfl)
@[go_sem] theorem condK_false {Q : CR → Prop} {fr : Nat → AV} {h : AH} {a b : LC} : condK E K m (.bool false) a b fr h Q = wCode E K m b fr h Q := (rfl)
theorem condK_intro {Q : CR → Prop} {fr : Nat → AV} {h : AH} {a b : LC} {c : Bool} (h1 : c = true → wCode E K m a fr h Q) (h2 : c = false → wCode E K m b fr h Q) : condK E K m (.bool c) a b fr h Q := by
  cases c
  · exact h2 rfl
  · exact h1 rfl
@[go_sem] theorem resK_some {v : AV} {h : AH} {Q : Out → Prop} : resK (some v) h Q = Q (.ret v h) := (rfl)
@[go_sem] theorem SeqC_go {b : LC} {Q : CR → Prop} {fr : Nat → AV} {h : AH} : SeqC E K m b Q (.go 0 fr h) = wCode E K m b fr h Q := (rfl)
@[go_sem] theorem SeqC_out {b : LC} {Q : CR → Prop} {n : Nat} {fr : Nat → AV} {h : AH} : SeqC E K m b Q (.go (n + 1) fr h) = Q (.go (n + 1) fr h) := (rfl)
@[go_sem] theorem SeqC_pan {b : LC} {Q : CR → Prop} {v : AV} {h : AH} : SeqC E K m b Q (.pan v h) = Q (.pan v h) := (rfl)
@[go_sem] theorem SeqQ_go {k : (Nat → AV) → AH → Prop} {Q : CR → Prop} {fr : Nat → AV} {h : AH} : SeqQ k Q (.go 0 fr h) = k fr h := (rfl)
@[go_sem] theorem SeqQ_out {k : (Nat → AV) → AH → Prop} {Q : CR → Prop} {n : Nat} {fr : Nat → AV} {h : AH} : SeqQ k Q (.go (n + 1) fr h) = Q (.go (n + 1) fr h) := (rfl)
@[go_sem] theorem SeqQ_pan {k : (Nat → AV) → AH → Prop} {Q : CR → Prop} {v : AV} {h : AH} : SeqQ k Q (.pan v h) = Q (.pan v h) := (rfl)
@[go_sem] theorem BlockQ_go {id : Nat} {Q : CR → Prop} {fr : Nat → AV} {h : AH} : BlockQ id Q (.go 0 fr h) = Q (.go 0 fr h) := (rfl)
@[go_sem] theorem BlockQ_ret {id : Nat} {Q : CR → Prop} {fr : Nat → AV} {h : AH} : BlockQ id Q (.go 1 fr h) = Q (.go 1 fr h) := (rfl)
@[go_sem] theorem BlockQ_pan {id : Nat} {Q : CR → Prop} {v : AV} {h : AH} : BlockQ id Q (.pan v h) = Q (.pan v h) := (rfl)
@[go_sem] theorem BlockQ_exit {id k : Nat} {Q : CR → Prop} {fr : Nat → AV} {h : AH} : BlockQ id Q (.go (k + 2) fr h) = if k = id then Q (.go 0 fr h) else Q (.go (k + 2) fr h) := by
  simp only [BlockQ]
  cases hb : Nat.beq k id
  · rw [cond_false, if_neg (Nat.ne_of_beq_eq_false hb)]
  · rw [cond_true, if_pos (Nat.eq_of_beq_eq_true hb)]
@[go_sem] theorem BodyQ_go {F : Func} {Q : Out → Prop} {fr : Nat → AV} {h : AH} : BodyQ E F Q (.go 0 fr h) = resK (aResults E F fr h) h Q := (rfl)
@[go_sem] theorem BodyQ_ret {F : Func} {Q : Out → Prop} {fr : Nat → AV} {h : AH} : BodyQ E F Q (.go 1 fr h) = resK (aResults E F fr h) h Q := (rfl)
@[go_sem] theorem BodyQ_pan {F : Func} {Q : Out → Prop} {v : AV} {h : AH} : BodyQ E F Q (.pan v h) = Q (.pan v h) := (rfl)
@[go_sem] theorem wCode_skip {Q : CR → Prop} {fr : Nat → AV} {h : AH} : wCode E K m .skip fr h Q = Q (.go 0 fr h) := (rfl)
@[go_sem] theorem wCode_ops {Q : CR → Prop} {fr : Nat → AV} {h : AH} {l : List LOp} : wCode E K m (.ops l) fr h Q = wOps E K Q l [] fr h := (rfl)
@[go_sem] theorem wCode_seq {Q : CR → Prop} {fr : Nat → AV} {h : AH} {a b : LC} : wCode E K m (.seq a b) fr h Q = wCode E K m a fr h (SeqC E K m b Q) := (rfl)
@[go_sem] theorem wCode_cond {Q : CR → Prop} {fr : Nat → AV} {h : AH} {c : Operand} {a b : LC} : wCode E K m (.cond c a b) fr h Q = condK E K m (ev fr c) a b fr h Q := (rfl)
@[go_sem] theorem wCode_block {Q : CR → Prop} {fr : Nat → AV} {h : AH} {id : Nat} {b : LC} : wCode E K m (.block id b) fr h Q = wCode E K m b fr h (BlockQ id Q) := (rfl)
@[go_sem] theorem wCode_loop {Q : CR → Prop} {fr : Nat → AV} {h : AH} {b : LC} : wCode E K m (.loop b) fr h Q = wLoop (wCode E K m b) m fr h Q := (rfl)
@[go_sem] theorem wCode_exit {Q : CR → Prop} {fr : Nat → AV} {h : AH} {id : Nat} : wCode E K m (.exit id) fr h Q = Q (.go (id + 2) fr h) := (rfl)
@[go_sem] theorem wCode_ret {Q : CR → Prop} {fr : Nat → AV} {h : AH} : wCode E K m .ret fr h Q = Q (.go 1 fr h) := (rfl)
@[go_sem] theorem wWant_none {fr : Nat → AV} : wWant fr none = some true := (rfl)
@[go_sem] theorem wWant_some {fr : Nat → AV} {t : Tmp} {b : Bool} : wWant fr (some (t, b)) = match fr t with | .bool c => some (c == b) | .tup _ => some false | _ => none := (rfl)
@[go_sem] theorem wPend_nil {h : AH} : ∀ {ps : List Pend}, wPend E [] h ps = True
  | [] => rfl
  | p :: ps => by simp [wPend, wPend_nil]

/-! ### Looking things up -/
@[go_sem] theorem setF_some (fr : Nat → AV) (d t : Nat) (v : AV) : setF fr (some d) v t = if t = d then v else fr t := by
  simp only [setF]
  cases hb : Nat.beq t d
  · rw [cond_false, if_neg (Nat.ne_of_beq_eq_false hb)]
  · rw [cond_true, if_pos (Nat.eq_of_beq_eq_true hb)]
@[go_sem] theorem setF_none (fr : Nat → AV) (v : AV) : setF fr none v = fr := (rfl)
@[go_sem] theorem ev_tmp (fr : Nat → AV) (t : Tmp) : ev fr (.tmp t) = fr t := (rfl)
@[go_sem] theorem ev_const (fr : Nat → AV) (v : Value) : ev fr (.const v) = ofV v := (rfl)
@[go_sem] theorem ev_func (fr : Nat → AV) (f : FuncId) : ev fr (.func f) = .fn (.func f) [] [] := (rfl)
@[go_sem] theorem ofV_bool (b : Bool) : ofV (.bool b) = .bool b := (rfl)
@[go_sem] theorem ofV_int (k : IntKind) (n : Int) : ofV (.int k n) = .int k n := (rfl)
@[go_sem] theorem ofV_str (b : ByteArray) : ofV (.string b) = .str b.data.toList := (rfl)
@[go_sem] theorem ofV_nilp : ofV (.pointer none) = .nilp := (rfl)
@[go_sem] theorem ofV_nils : ofV (.slice none 0 0) = .nils := (rfl)
@[go_sem] theorem ofV_nilm : ofV (.map none) = .nilm := (rfl)
@[go_sem] theorem ofV_nilf : ofV .nilFunc = .nilf := (rfl)
@[go_sem] theorem ofV_nili : ofV .nilIface = .nili := (rfl)

theorem aResults_nil {F : Func} {fr : Nat → AV} {h : AH} (hr : F.results = #[]) : aResults E F fr h = some (.tup []) := by simp [aResults, hr, aResL]
theorem aResults_one {F : Func} {fr : Nat → AV} {h : AH} {t : Tmp} (hr : F.results = #[.tmp t]) : aResults E F fr h = some (fr t) := by simp [aResults, hr, aResL, aRes1]
theorem aResults_two {F : Func} {fr : Nat → AV} {h : AH} {t u : Tmp} (hr : F.results = #[.tmp t, .tmp u]) : aResults E F fr h = some (.tup [fr t, fr u]) := by simp [aResults, hr, aResL, aRes1]
@[go_sem] theorem frame0_0 {a : AV} {l : List AV} : frame0 (a :: l) 0 = a := (rfl)
@[go_sem] theorem frame0_1 {a b : AV} {l : List AV} : frame0 (a :: b :: l) 1 = b := (rfl)
@[go_sem] theorem frame0_2 {a b c : AV} {l : List AV} : frame0 (a :: b :: c :: l) 2 = c := (rfl)

theorem get_push (h : AH) (o : AO) (i : Nat) : (h.push o).get i = if i = h.next then o else h.get i := by
  simp only [AH.push]
  cases hb : Nat.beq i h.next
  · rw [cond_false, if_neg (Nat.ne_of_beq_eq_false hb)]
  · rw [cond_true, if_pos (Nat.eq_of_beq_eq_true hb)]
@[go_sem] theorem next_push (h : AH) (o : AO) : (h.push o).next = h.next + 1 := (rfl)
theorem get_set (h : AH) (j : Nat) (o : AO) (i : Nat) : (h.set j o).get i = if i = j then o else h.get i := by
  simp only [AH.set]
  cases hb : Nat.beq i j
  · rw [cond_false, if_neg (Nat.ne_of_beq_eq_false hb)]
  · rw [cond_true, if_pos (Nat.eq_of_beq_eq_true hb)]
@[go_sem] theorem next_set (h : AH) (j : Nat) (o : AO) : (h.set j o).next = h.next := (rfl)

theorem wrap_i64 {n : Int} (h : -9223372036854775808 ≤ n ∧ n < 9223372036854775808) : IntKind.wrap .i64 n = n := by
  rw [IntKind.wrap_i64]
  omega
end
end Go.Proofs.Yteblojfcalgoeaa

/- The abstract machine: what each operation comes to, as rules for simp. Conditions: none. -/
set_option linter.unusedVariables false
namespace Go.Proofs.Yteblojfcalgoeaa
open Go Go.RowKit

def valO (v : Option AV) (h : AH) : Option SR :=
  match v with
  | some v => some (.val v h)
  | none => none
def valH (v : Option (AV × AH)) : Option SR :=
  match v with
  | some (v, h) => some (.val v h)
  | none => none
def pickV (c a b : AV) : Option AV :=
  match c with
  | .bool t => some (bif t then a else b)
  | _ => none
def nilV : AV → Option AV
  | .ptr i o => some (.ptr i o)
  | .iface t v => some (.iface t v)
  | .fn (.func f) a b => some (.fn (.func f) a b)
  | _ => none
def tupV (v : AV) (i : Nat) : Option AV :=
  match v with
  | .tup vs => vs[i]?
  | _ => none
def callO (o : Option Out) : Option SR :=
  match o with
  | some o => some o.sr
  | none => none
def callF (E : Env) (K : Caller) (f : AV) (args : List AV) (h : AH) : Option SR :=
  match f with
  | .fn (.func g) first cap => aEnter E K g (first ++ args ++ cap) h
  | .fn (.method m) first _ => match first ++ args with
    | recv :: rest => aMeth E K recv m rest h
    | [] => none
  | _ => none
def panV (v : AV) (h : AH) : Option SR :=
  match v with
  | .iface t v => some (.pan (.iface t v) h)
  | _ => none
def loadAt (E : Env) (t : TypeId) (o : Nat) (ob : AO) : Option AV :=
  match ob, E.ty t with
  | .cells cs _ _, some ti =>
    bif aggOf ti.und then (bif Nat.ble (o + ti.size) cs.length then some (.agg ((cs.drop o).take ti.size)) else none)
    else cs[o]?
  | _, _ => none
def storeO (E : Env) (t : TypeId) (o : Nat) (v : AV) (ob : AO) : Option AO :=
  match E.ty t, ob with
  | some ti, .cells cs t' m => bif v.good && (Nat.beq v.cells.length ti.size && (v.cells.all AV.atom && (decide (m ≠ .ro) && Nat.ble (o + v.cells.length) cs.length)))
      then some (.cells (setFrom cs o v.cells) t' m) else none
  | _, _ => none
def putO (h : AH) (i : Nat) (ob : Option AO) : Option SR :=
  match ob with
  | some ob => some (.val .bad (h.set i ob))
  | none => none
def storeV (E : Env) (h : AH) (t : TypeId) (p v : AV) : Option SR :=
  match p with
  | .ptr i o => putO h i (storeO E t o v (h.get i))
  | _ => none
def boxV (t : TypeId) (v : AV) (h : AH) : Option SR := bif v.good && v.cells.all AV.atom then some (.val (.ptr h.next 0) (h.push (.cells v.cells t .own))) else none

def andI (k : IntKind) (a b : Int) : Int := k.wrap (BitVec.ofInt k.bits a &&& BitVec.ofInt k.bits b).toNat
def orI (k : IntKind) (a b : Int) : Int := k.wrap (BitVec.ofInt k.bits a ||| BitVec.ofInt k.bits b).toNat
def xorI (k : IntKind) (a b : Int) : Int := k.wrap (BitVec.ofInt k.bits a ^^^ BitVec.ofInt k.bits b).toNat
def andNotI (k : IntKind) (a b : Int) : Int := k.wrap (BitVec.ofInt k.bits a &&& ~~~BitVec.ofInt k.bits b).toNat

/-! ### What the tables say of a type -/
def atomT (E : Env) (t : TypeId) : Bool := match E.ty t with | some ti => !aggOf ti.und | none => false
def aggT (E : Env) (t : TypeId) : Option Nat := match E.ty t with | some ti => (match aggOf ti.und with | true => some ti.size | false => none) | none => none
def sizeT (E : Env) (t : TypeId) : Option Nat := match E.ty t with | some ti => some ti.size | none => none
def zeroT (E : Env) (t : TypeId) : Option AV := match E.ty t with | some ti => some ti.zero | none => none
def intT (E : Env) (t : TypeId) : Option IntKind := match E.ty t with | some ti => (match ti.und with | .int k => some k | _ => none) | none => none
def strT (E : Env) (t : TypeId) : Bool := match E.ty t with | some ti => (match ti.und with | .string => true | _ => false) | none => false
/-- A slice type: its element type, and how many cells an element has. -/
def elemT (E : Env) (t : TypeId) : Option (TypeId × Nat) := match E.ty t with | some ti => (match ti.und with | .slice e => (match E.ty e with | some ei => some (e, ei.size) | none => none) | _ => none) | none => none
def fieldT (E : Env) (t : TypeId) (f : Nat) : Option Nat :=
  match E.ty t with
  | some ti => match ti.und with
    | .struct fs => match fs.toList[f]? with
      | some fd => match E.ty fd.type with
        | some fi => bif Nat.beq fi.size 0 then none else some fd.offset
        | none => none
      | none => none
    | _ => none
  | none => none
def plainT (E : Env) (t : TypeId) : Bool := match E.ty t with | some ti => (match ti.und with | .interface _ => false | _ => true) | none => false
def ptrT (E : Env) (t : TypeId) : Bool := match E.ty t with | some ti => (match ti.und with | .pointer _ => true | _ => false) | none => false
def sliceT (E : Env) (t : TypeId) : Bool := match E.ty t with | some ti => (match ti.und with | .slice _ => true | _ => false) | none => false

section
variable {E : Env} {K : Caller} {fr : Nat → AV} {h : AH}

@[go_sem] theorem valO_some {v : AV} : valO (some v) h = some (.val v h) := (rfl)
@[go_sem] theorem valH_some {v : AV} : valH (some (v, h)) = some (.val v h) := (rfl)
@[go_sem] theorem pickV_bool {t : Bool} {a b : AV} : pickV (.bool t) a b = some (bif t then a else b) := (rfl)
@[go_sem] theorem nilV_ptr {i o : Nat} : nilV (.ptr i o) = some (.ptr i o) := (rfl)
@[go_sem] theorem nilV_fn {f : FuncId} {a b : List AV} : nilV (.fn (.func f) a b) = some (.fn (.func f) a b) := (rfl)
@[go_sem] theorem tupV_tup {vs : List AV} {i : Nat} : tupV (.tup vs) i = vs[i]? := (rfl)
@[go_sem] theorem callO_ret {v : AV} : callO (some (.ret v h)) = some (.val v h) := (rfl)
@[go_sem] theorem callO_pan {v : AV} : callO (some (.pan v h)) = some (.pan v h) := (rfl)
@[go_sem] theorem panV_iface {t : TypeId} {v : AV} : panV (.iface t v) h = some (.pan (.iface t v) h) := (rfl)
@[go_sem] theorem cond_bool {t a b : Bool} : (bif t then AV.bool a else AV.bool b) = .bool (bif t then a else b) := by cases t <;> rfl

@[go_sem] theorem st_move {x : Operand} : aStep E K true fr h (.move x) = some (.val (ev fr x) h) := (rfl)
@[go_sem] theorem st_assign {x : Operand} : aStep E K true fr h (.assign x) = some (.val (ev fr x) h) := (rfl)
@[go_sem] theorem st_pick {c a b : Operand} : aStep E K true fr h (.pick c a b) = valO (pickV (ev fr c) (ev fr a) (ev fr b)) h := by
  simp only [aStep, qStep, qOp, pickV]
  cases ev fr c <;> rfl
@[go_sem] theorem st_load {t : TypeId} {x : Operand} : aStep E K true fr h (.load t x) = valO (aLoad E h t (ev fr x)) h := (rfl)
@[go_sem] theorem st_nilCheck {x : Operand} : aStep E K true fr h (.nilCheck x) = valO (nilV (ev fr x)) h := by
  simp only [aStep, qStep, qOp, nilV]
  cases ev fr x <;> rfl
@[go_sem] theorem st_binOp {op : BinOp} {t t' : TypeId} {x y : Operand} : aStep E K true fr h (.binOp op t x y t') = valO (aBin E op t (ev fr x) (ev fr y)) h := (rfl)
@[go_sem] theorem st_unOp {op : UnOp} {t : TypeId} {x : Operand} : aStep E K true fr h (.unOp op t x) = valO (aUn op (ev fr x)) h := (rfl)
@[go_sem] theorem st_convert {s d : TypeId} {x : Operand} : aStep E K true fr h (.convert s d x) = valO (aConvQ E h s d (ev fr x)) h := (rfl)
theorem st_makeInterface {t : TypeId} {x : Operand} (ht : plainT E t = true) : aStep E K true fr h (.makeInterface t x) = some (.val (.iface t (ev fr x)) h) := by
  unfold plainT at ht
  simp only [aStep, qStep, qOp]
  cases e : E.ty t with
  | none => rw [e] at ht; cases ht
  | some ti =>
    rw [e] at ht
    simp only at ht ⊢
    cases hu : ti.und <;> rw [hu] at ht <;> first | rfl | cases ht
@[go_sem] theorem st_makeFunc {f : Fn} {a b : Array Operand} : aStep E K true fr h (.makeFunc f a b) = some (.val (.fn f (a.toList.map (ev fr)) (b.toList.map (ev fr))) h) := (rfl)
@[go_sem] theorem st_slice {t : TypeId} {x : Operand} {a b c : Option Operand} : aStep E K true fr h (.slice t x a b c) = valO (aSlice E t (ev fr x) (a.map (ev fr)) (b.map (ev fr)) (c.map (ev fr))) h := (rfl)
@[go_sem] theorem st_fieldAddr {t : TypeId} {x : Operand} {f : Nat} : aStep E K true fr h (.fieldAddr t x f) = valO (aFieldAt E t (ev fr x) f) h := (rfl)
@[go_sem] theorem st_field {t : TypeId} {x : Operand} {f : Nat} : aStep E K true fr h (.field t x f) = valO (aField E t (ev fr x) f) h := (rfl)
@[go_sem] theorem st_indexAddr {t : TypeId} {x y : Operand} : aStep E K true fr h (.indexAddr t x y) = valO (aIndexAt E t (ev fr x) (ev fr y)) h := (rfl)
@[go_sem] theorem st_index {t : TypeId} {x y : Operand} : aStep E K true fr h (.index t x y) = valO (aIndex E t (ev fr x) (ev fr y)) h := (rfl)
@[go_sem] theorem st_extract {x : Operand} {i : Nat} : aStep E K true fr h (.extract x i) = valO (tupV (ev fr x) i) h := by
  simp only [aStep, qStep, qOp, tupV]
  cases ev fr x <;> rfl
@[go_sem] theorem st_builtin {b : Builtin} {as : Array Operand} {ts : Array TypeId} : aStep E K true fr h (.call ⟨.builtin b, as, ts⟩) = valO (qBuiltin E h b (as.toList.map (ev fr)) ts.toList) h := (rfl)
@[go_sem] theorem st_build {t : TypeId} {ps : Array (Nat × Operand)} : aStep E K true fr h (.build t ps) = valO (aBuild E t (ps.toList.map fun p => (p.1, ev fr p.2))) h := (rfl)

@[go_sem] theorem st_panic {x : Operand} : aStep E K false fr h (.panic x) = panV (ev fr x) h := by
  simp only [aStep, aOper, panV]
  cases ev fr x <;> rfl
theorem st_callf {g : FuncId} {as : Array Operand} {ts : Array TypeId} (hg : (E.fn g).isSome = true) : aStep E K false fr h (.call ⟨.value (.func g), as, ts⟩) = callO (K g (as.toList.map (ev fr)) h) := by
  simp only [aStep, aOper, ev_func, aEnter, List.nil_append, List.append_nil, callO]
  cases hf : E.fn g with
  | none => rw [hf] at hg; cases hg
  | some F => rfl
@[go_sem] theorem st_callv {x : Operand} {as : Array Operand} {ts : Array TypeId} : aStep E K false fr h (.call ⟨.value x, as, ts⟩) = callF E K (ev fr x) (as.toList.map (ev fr)) h := by
  simp only [aStep, aOper, callF]
  cases ev fr x <;> rfl
theorem callF_func {g : FuncId} {first cap args : List AV} (hg : (E.fn g).isSome = true) : callF E K (.fn (.func g) first cap) args h = callO (K g (first ++ args ++ cap) h) := by
  simp only [callF, aEnter, callO]
  cases hf : E.fn g with
  | none => rw [hf] at hg; cases hg
  | some F => rfl
theorem st_alloc {t : TypeId} {z : AV} (hz : zeroT E t = some z) : aStep E K false fr h (.alloc t) = some (.val (.ptr h.next 0) (h.push (.cells z.cells t .own))) := by
  unfold zeroT at hz
  split at hz
  · rename_i ti e
    cases hz
    simp only [aStep, aOper, qStep, qOp, eOp, e]
  · cases hz
@[go_sem] theorem st_box {t : TypeId} {x : Operand} : aStep E K false fr h (.box t x) = boxV t (ev fr x) h := by
  simp only [aStep, aOper, qStep, qOp, eOp, boxV]
  cases ((ev fr x).good && (ev fr x).cells.all AV.atom) <;> rfl
@[go_sem] theorem st_store {t : TypeId} {x y : Operand} : aStep E K false fr h (.store t x y) = storeV E h t (ev fr x) (ev fr y) := by
  simp only [aStep, aOper, qStep, qOp, eOp, aStore, storeV]
  cases ev fr x <;> try rfl
  rename_i i o
  simp only [storeO]
  cases E.ty t with
  | none => rfl
  | some ti =>
    simp only
    cases h.get i <;> try rfl
    rename_i cs t' m
    simp only
    cases ((ev fr y).good && (Nat.beq (ev fr y).cells.length ti.size && ((ev fr y).cells.all AV.atom && (decide (m ≠ .ro) && Nat.ble (o + (ev fr y).cells.length) cs.length)))) <;> rfl
@[go_sem] theorem st_buildSlice {t : TypeId} {n : Nat} {ps : Array (Nat × Operand)} : aStep E K false fr h (.buildSlice t n ps) = valH (aBuildSlice E h t n (ps.toList.map fun p => (p.1, ev fr p.2))) := by
  simp only [aStep, aOper, qStep, qOp, eOp, valH]
  cases aBuildSlice E h t n (ps.toList.map fun p => (p.1, ev fr p.2)) <;> rfl
@[go_sem] theorem st_append {as : Array Operand} {ts : Array TypeId} : aStep E K false fr h (.call ⟨.builtin .append, as, ts⟩) = valH (eBuiltin E h .append (as.toList.map (ev fr)) ts.toList) := by
  simp only [aStep, aOper, qOp, qBuiltin, eOp, valH]
  cases eBuiltin E h .append (as.toList.map (ev fr)) ts.toList <;> rfl
theorem st_convertE {s d : TypeId} {x : Operand} (hq : aConvQ E h s d (ev fr x) = none) : aStep E K false fr h (.convert s d x) = valH (eOp E fr h (.convert s d x)) := by
  simp only [aStep, aOper, qStep, qOp, hq, valH]
  cases eOp E fr h (.convert s d x) <;> rfl

/-! ### Values -/
@[go_sem] theorem aLoad_ptr {t : TypeId} {i o : Nat} : aLoad E h t (.ptr i o) = loadAt E t o (h.get i) := (rfl)
theorem loadAt_atom {t : TypeId} {o : Nat} {cs : List AV} {t' : TypeId} {m : Mode} (ht : atomT E t = true) : loadAt E t o (.cells cs t' m) = cs[o]? := by
  unfold atomT at ht
  unfold loadAt
  split at ht
  · rename_i ti e
    simp only [e]
    cases ha : aggOf ti.und
    · rfl
    · rw [ha] at ht; cases ht
  · cases ht
theorem loadAt_agg {t : TypeId} {o n : Nat} {cs : List AV} {t' : TypeId} {m : Mode} (ht : aggT E t = some n) (hl : o + n ≤ cs.length) : loadAt E t o (.cells cs t' m) = some (.agg ((cs.drop o).take n)) := by
  unfold aggT at ht
  unfold loadAt
  split at ht
  · rename_i ti e
    simp only [e]
    cases ha : aggOf ti.und
    · rw [ha] at ht; cases ht
    · rw [ha] at ht
      cases ht
      rw [cond_true, Nat.ble_eq_true_of_le hl, cond_true]
  · cases ht
theorem aFieldAt_ptr {t : TypeId} {f i o off : Nat} (ht : fieldT E t f = some off) : aFieldAt E t (.ptr i o) f = some (.ptr i (o + off)) := by
  unfold fieldT at ht
  unfold aFieldAt
  split at ht
  case h_2 => cases ht
  rename_i ti e
  simp only [e]
  split at ht
  case h_2 => cases ht
  rename_i fs e2
  simp only [e2]
  split at ht
  case h_2 => cases ht
  rename_i fd e3
  simp only [e3]
  split at ht
  case h_2 => cases ht
  rename_i fi e4
  simp only [e4]
  cases hb : Nat.beq fi.size 0
  · rw [hb] at ht; cases ht; rfl
  · rw [hb] at ht; cases ht
theorem aIndexAt_sl {t e : TypeId} {sz i o n c : Nat} {l : Bool} {k : IntKind} {x : Int} (ht : elemT E t = some (e, sz)) (h0 : 0 ≤ x) (h1 : x.toNat < n) : aIndexAt E t (.sl i o n c l) (.int k x) = some (.ptr i (o + x.toNat * sz)) := by
  unfold elemT at ht
  unfold aIndexAt asN
  split at ht
  case h_2 => cases ht
  rename_i ti e1
  split at ht
  case h_2 => cases ht
  rename_i e' e2
  split at ht
  case h_2 => cases ht
  rename_i ei e3
  cases ht
  simp only [e1, e2, e3, decide_eq_true h0, cond_true]
  have : Nat.blt x.toNat n = true := Nat.ble_eq_true_of_le h1
  rw [this]
  rfl
theorem conv_int {s d : TypeId} {k k' : IntKind} {n : Int} (hs : (E.ty s).isSome = true) (hd : intT E d = some k) : aConvQ E h s d (.int k' n) = some (.int k (k.wrap n)) := by
  unfold intT at hd
  unfold aConvQ
  split at hd
  case h_2 => cases hd
  rename_i di e1
  split at hd
  case h_2 => cases hd
  rename_i k2 e2
  cases hd
  cases hs' : E.ty s with
  | none => rw [hs'] at hs; cases hs
  | some si =>
    simp only [e1, e2, mkI_eq]
theorem conv_str {s d : TypeId} {b : List UInt8} (hs : (E.ty s).isSome = true) (hd : strT E d = true) : aConvQ E h s d (.str b) = some (.str b) := by
  unfold strT at hd
  unfold aConvQ
  split at hd
  case h_2 => cases hd
  rename_i di e1
  split at hd
  case h_2 => cases hd
  rename_i e2
  cases hs' : E.ty s with
  | none => rw [hs'] at hs; cases hs
  | some si => simp only [e1, e2]

@[go_sem] theorem bin_add {t : TypeId} {k : IntKind} {a b : Int} : aBin E .add t (.int k a) (.int k b) = some (.int k (k.wrap (a + b))) := by simp [aBin, aInt, mkI_eq]
@[go_sem] theorem bin_sub {t : TypeId} {k : IntKind} {a b : Int} : aBin E .sub t (.int k a) (.int k b) = some (.int k (k.wrap (a - b))) := by simp [aBin, aInt, mkI_eq]
@[go_sem] theorem bin_mul {t : TypeId} {k : IntKind} {a b : Int} : aBin E .mul t (.int k a) (.int k b) = some (.int k (k.wrap (a * b))) := by simp [aBin, aInt, mkI_eq]
@[go_sem] theorem bin_quo {t : TypeId} {k : IntKind} {a b : Int} (hb : b ≠ 0) : aBin E .quo t (.int k a) (.int k b) = some (.int k (k.wrap (a.tdiv b))) := by simp [aBin, aInt, mkI_eq, hb]
@[go_sem] theorem bin_rem {t : TypeId} {k : IntKind} {a b : Int} (hb : b ≠ 0) : aBin E .rem t (.int k a) (.int k b) = some (.int k (a.tmod b)) := by simp [aBin, aInt, mkI_eq, hb]
@[go_sem] theorem bin_and {t : TypeId} {k : IntKind} {a b : Int} : aBin E .and t (.int k a) (.int k b) = some (.int k (andI k a b)) := by simp [aBin, aInt, mkI_eq, andI]
@[go_sem] theorem bin_or {t : TypeId} {k : IntKind} {a b : Int} : aBin E .or t (.int k a) (.int k b) = some (.int k (orI k a b)) := by simp [aBin, aInt, mkI_eq, orI]
@[go_sem] theorem bin_xor {t : TypeId} {k : IntKind} {a b : Int} : aBin E .xor t (.int k a) (.int k b) = some (.int k (xorI k a b)) := by simp [aBin, aInt, mkI_eq, xorI]
@[go_sem] theorem bin_andNot {t : TypeId} {k : IntKind} {a b : Int} : aBin E .andNot t (.int k a) (.int k b) = some (.int k (andNotI k a b)) := by simp [aBin, aInt, mkI_eq, andNotI]
@[go_sem] theorem bin_eql {t : TypeId} {k : IntKind} {a b : Int} : aBin E .eql t (.int k a) (.int k b) = some (.bool (a == b)) := by simp [aBin, aInt]
@[go_sem] theorem bin_neq {t : TypeId} {k : IntKind} {a b : Int} : aBin E .neq t (.int k a) (.int k b) = some (.bool (a != b)) := by simp [aBin, aInt]
@[go_sem] theorem bin_lss {t : TypeId} {k : IntKind} {a b : Int} : aBin E .lss t (.int k a) (.int k b) = some (.bool (decide (a < b))) := by simp [aBin, aInt]
@[go_sem] theorem bin_leq {t : TypeId} {k : IntKind} {a b : Int} : aBin E .leq t (.int k a) (.int k b) = some (.bool (decide (a ≤ b))) := by simp [aBin, aInt]
@[go_sem] theorem bin_gtr {t : TypeId} {k : IntKind} {a b : Int} : aBin E .gtr t (.int k a) (.int k b) = some (.bool (decide (b < a))) := by simp [aBin, aInt]
@[go_sem] theorem bin_geq {t : TypeId} {k : IntKind} {a b : Int} : aBin E .geq t (.int k a) (.int k b) = some (.bool (decide (b ≤ a))) := by simp [aBin, aInt]
@[go_sem] theorem bin_shl {t : TypeId} {k k' : IntKind} {a b : Int} (hb : 0 ≤ b) : aBin E .shl t (.int k a) (.int k' b) = some (.int k (k.wrap (a * 2 ^ (min b.toNat k.bits)))) := by
  simp [aBin, aShift, mkI_eq, Int.not_lt.2 hb]
@[go_sem] theorem bin_shr {t : TypeId} {k k' : IntKind} {a b : Int} (hb : 0 ≤ b) : aBin E .shr t (.int k a) (.int k' b) = some (.int k (a.fdiv (2 ^ (min b.toNat k.bits)))) := by
  simp [aBin, aShift, mkI_eq, Int.not_lt.2 hb]
@[go_sem] theorem bin_seql {t : TypeId} {a b : List UInt8} : aBin E .eql t (.str a) (.str b) = some (.bool (a == b)) := (rfl)
@[go_sem] theorem bin_sneq {t : TypeId} {a b : List UInt8} : aBin E .neq t (.str a) (.str b) = some (.bool !(a == b)) := (rfl)
theorem bin_peql {t : TypeId} {i o : Nat} (ht : ptrT E t = true) : aBin E .eql t (.ptr i o) .nilp = some (.bool false) := by
  unfold ptrT at ht
  split at ht
  case h_2 => cases ht
  rename_i ti e1
  split at ht
  case h_2 => cases ht
  rename_i e2
  simp [aBin, aEq, e1, e2]
@[go_sem] theorem un_not {b : Bool} : aUn .not (.bool b) = some (.bool !b) := (rfl)
@[go_sem] theorem un_neg {k : IntKind} {n : Int} : aUn .neg (.int k n) = some (.int k (k.wrap (0 - n))) := by simp [aUn, mkI_eq]
theorem len_sl {t : TypeId} {i o n c : Nat} {l : Bool} (ht : sliceT E t = true) : qBuiltin E h .len [.sl i o n c l] [t] = some (.int .i64 n) := by
  unfold sliceT at ht
  split at ht
  case h_2 => cases ht
  rename_i ti e1
  split at ht
  case h_2 => cases ht
  rename_i e2
  simp [qBuiltin, aLen, e1, e2]
theorem len_nils {t : TypeId} (ht : sliceT E t = true) : qBuiltin E h .len [.nils] [t] = some (.int .i64 0) := by
  unfold sliceT at ht
  split at ht
  case h_2 => cases ht
  rename_i ti e1
  split at ht
  case h_2 => cases ht
  rename_i e2
  simp [qBuiltin, aLen, e1, e2]
theorem len_emp {t : TypeId} (ht : sliceT E t = true) : qBuiltin E h .len [.emp] [t] = some (.int .i64 0) := by
  unfold sliceT at ht
  split at ht
  case h_2 => cases ht
  rename_i ti e1
  split at ht
  case h_2 => cases ht
  rename_i e2
  simp [qBuiltin, aLen, e1, e2]
theorem len_str {t : TypeId} {s : List UInt8} (ht : strT E t = true) : qBuiltin E h .len [.str s] [t] = some (.int .i64 s.length) := by
  unfold strT at ht
  split at ht
  case h_2 => cases ht
  rename_i ti e1
  split at ht
  case h_2 => cases ht
  rename_i e2
  simp [qBuiltin, aLen, e1, e2]
@[go_sem] theorem min_int {k k' : IntKind} {a b : Int} {ts : List TypeId} : qBuiltin E h .min [.int k a, .int k' b] ts = some (.int k (if b < a then b else a)) := (rfl)
@[go_sem] theorem max_int {k k' : IntKind} {a b : Int} {ts : List TypeId} : qBuiltin E h .max [.int k a, .int k' b] ts = some (.int k (if b > a then b else a)) := (rfl)
end
end Go.Proofs.Yteblojfcalgoeaa

/- The abstract machine: slices of bytes, what they hold, and what is done with them. Conditions: none. -/
set_option linter.unusedVariables false
namespace Go.Proofs.Yteblojfcalgoeaa
open Go Go.RowKit

def u8s (bs : List UInt8) : List AV := bs.map fun c => .int .u8 c.toNat
theorem u8s_length (bs : List UInt8) : (u8s bs).length = bs.length := by simp [u8s]
theorem u8s_append (a b : List UInt8) : u8s (a ++ b) = u8s a ++ u8s b := by simp [u8s]
theorem u8s_atom (bs : List UInt8) : (u8s bs).all AV.atom = true := by
  simp [u8s, AV.atom]
theorem bytesOf_u8s : ∀ bs : List UInt8, bytesOf (u8s bs) = some bs
  | [] => rfl
  | c :: bs => by
      have ih := bytesOf_u8s bs
      simp only [u8s] at ih
      simp [u8s, bytesOf, ih]

def ids : AV → List Nat
  | .sl i _ _ _ _ => [i]
  | .ptr i _ => [i]
  | .map i => [i]
  | _ => []

/-- What was there is as it was, but for some objects. -/
structure Keep (h h' : AH) (S : List Nat) : Prop where
  next : h.next ≤ h'.next
  get : ∀ j, j < h.next → j ∉ S → h'.get j = h.get j

theorem Keep.refl (h : AH) : Keep h h [] := ⟨Nat.le_refl _, fun _ _ _ => rfl⟩
theorem Keep.trans {a b c : AH} {S T : List Nat} (h : Keep a b S) (k : Keep b c T) : Keep a c (S ++ T) :=
  ⟨Nat.le_trans h.next k.next, fun j hj hn => (k.get j (Nat.lt_of_lt_of_le hj h.next) fun hx => hn (List.mem_append_right _ hx)).trans (h.get j hj fun hx => hn (List.mem_append_left _ hx))⟩
theorem Keep.mono {h h' : AH} {S T : List Nat} (k : Keep h h' S) (hs : ∀ j ∈ S, j < h.next → j ∈ T) : Keep h h' T := ⟨k.next, fun j hj hn => k.get j hj fun hx => hn (hs j hx hj)⟩
theorem Keep.push (h : AH) (o : AO) : Keep h (h.push o) [] := ⟨Nat.le_succ _, fun j hj _ => by rw [get_push, if_neg (Nat.ne_of_lt hj)]⟩
theorem Keep.set (h : AH) (i : Nat) (o : AO) : Keep h (h.set i o) [i] := ⟨Nat.le_refl _, fun j hj hn => by rw [get_set, if_neg (by simpa using hn)]⟩

/-- One value's objects have been taken, others made in their place; all else is as it was. -/
structure Grew (h h' : AH) (v v' : AV) : Prop where
  keep : Keep h h' (ids v)
  fresh : ∀ i ∈ ids v', i ∈ ids v ∨ h.next ≤ i

theorem Grew.refl (h : AH) (v : AV) : Grew h h v v := ⟨(Keep.refl h).mono (by simp), fun i hi => .inl hi⟩
theorem Grew.trans {a b c : AH} {u v w : AV} (h1 : Grew a b u v) (h2 : Grew b c v w) : Grew a c u w := by
  refine ⟨(h1.keep.trans h2.keep).mono fun j hj hlt => ?_, fun j hj => ?_⟩
  · rcases List.mem_append.1 hj with h3 | h3
    · exact h3
    · rcases h1.fresh j h3 with h4 | h4
      · exact h4
      · omega
  · rcases h2.fresh j hj with h3 | h3
    · exact h1.fresh j h3
    · exact .inr (Nat.le_trans h1.keep.next h3)
theorem Grew.push {a : AH} {o : AO} {c : AH} {v w : AV} (h : Grew (a.push o) c v w) : Grew a c v w :=
  ⟨((Keep.push a o).trans h.keep).mono (by simp (config := { contextual := true })), fun j hj => (h.fresh j hj).imp id Nat.le_of_succ_le⟩
theorem Grew.lift {a b c : AH} {v w : AV} (k : Keep a b []) (h : Grew b c v w) : Grew a c v w :=
  ⟨(k.trans h.keep).mono (by simp (config := { contextual := true })), fun j hj => (h.fresh j hj).imp id (Nat.le_trans k.next)⟩
theorem Grew.after {a b c : AH} {v w : AV} (h : Grew a b v w) (k : Keep b c []) : Grew a c v w :=
  ⟨(h.keep.trans k).mono (by simp (config := { contextual := true })), h.fresh⟩

/-- What a slice of bytes holds. -/
def BS (h : AH) (v : AV) (bs : List UInt8) : Prop :=
  match v with
  | .nils => bs = []
  | .emp => bs = []
  | .sl i o n c l => (n = bs.length ∧ (l = false → n ≤ c)) ∧ i < h.next ∧ ∃ cs t m, h.get i = .cells cs t m ∧ o + n ≤ cs.length ∧ (cs.drop o).take n = u8s bs
  | _ => False

theorem BS.keep {h h' : AH} {v : AV} {bs : List UInt8} {S : List Nat} (hb : BS h v bs) (k : Keep h h' S) (hs : ∀ i ∈ ids v, i ∉ S) : BS h' v bs := by
  cases v <;> simp only [BS] at hb ⊢ <;> try exact hb
  obtain ⟨h1, h2, cs, t, m, h3, h4, h5⟩ := hb
  exact ⟨h1, Nat.lt_of_lt_of_le h2 k.next, cs, t, m, by rw [k.get _ h2 (hs _ (by simp [ids]))]; exact h3, h4, h5⟩

/-- A slice of bytes that is the code's own, as append makes them. -/
def Own (e : TypeId) (h : AH) (v : AV) (bs : List UInt8) : Prop :=
  (v = .nils ∧ bs = []) ∨ ∃ i, i < h.next ∧ ((v = .sl i 0 bs.length bs.length false ∧ h.get i = .cells (u8s bs) e .own) ∨ (v = .sl i 0 bs.length 0 true ∧ h.get i = .cells (u8s bs) e .loose))

theorem Own.bs {e : TypeId} {h : AH} {v : AV} {bs : List UInt8} (ho : Own e h v bs) : BS h v bs := by
  rcases ho with ⟨rfl, rfl⟩ | ⟨i, hi, ⟨rfl, hg⟩ | ⟨rfl, hg⟩⟩
  · rfl
  · exact ⟨⟨rfl, by simp⟩, hi, _, _, _, hg, by simp [u8s_length], by rw [List.drop_zero, ← u8s_length bs, List.take_length]⟩
  · exact ⟨⟨rfl, by simp⟩, hi, _, _, _, hg, by simp [u8s_length], by rw [List.drop_zero, ← u8s_length bs, List.take_length]⟩
theorem Own.keep {e : TypeId} {h h' : AH} {v : AV} {bs : List UInt8} {S : List Nat} (ho : Own e h v bs) (k : Keep h h' S) (hs : ∀ i ∈ ids v, i ∉ S) : Own e h' v bs := by
  rcases ho with ⟨rfl, rfl⟩ | ⟨i, hi, ⟨rfl, hg⟩ | ⟨rfl, hg⟩⟩
  · exact .inl ⟨rfl, rfl⟩
  · exact .inr ⟨i, Nat.lt_of_lt_of_le hi k.next, .inl ⟨rfl, by rw [k.get _ hi (hs _ (by simp [ids]))]; exact hg⟩⟩
  · exact .inr ⟨i, Nat.lt_of_lt_of_le hi k.next, .inr ⟨rfl, by rw [k.get _ hi (hs _ (by simp [ids]))]; exact hg⟩⟩
theorem Own.lt {e : TypeId} {h : AH} {v : AV} {bs : List UInt8} (ho : Own e h v bs) : ∀ i ∈ ids v, i < h.next := by
  rcases ho with ⟨rfl, rfl⟩ | ⟨i, hi, ⟨rfl, hg⟩ | ⟨rfl, hg⟩⟩ <;> simp [ids] <;> assumption
theorem Own.cases_len {e : TypeId} {h : AH} {v : AV} {bs : List UInt8} (ho : Own e h v bs) : (v = .nils ∧ bs = []) ∨ ∃ i c l, v = .sl i 0 bs.length c l := by
  rcases ho with h1 | ⟨i, hi, ⟨rfl, hg⟩ | ⟨rfl, hg⟩⟩
  · exact .inl h1
  · exact .inr ⟨_, _, _, rfl⟩
  · exact .inr ⟨_, _, _, rfl⟩

/-- A type of slices of bytes. -/
def byteT (E : Env) (t e : TypeId) : Bool :=
  match E.ty t, E.ty e with
  | some ti, some ei => (match ti.und with | .slice e' => Nat.beq e' e | _ => false) && ((match ei.und with | .int .u8 => true | _ => false) && (Nat.beq ei.size 1 && Nat.beq ei.bytes 1))
  | _, _ => false
/-- A type of slices, or of texts. -/
def seqT (E : Env) (t : TypeId) : Bool := match E.ty t with | some ti => (match ti.und with | .slice _ => true | .string => true | _ => false) | none => false

section
variable {E : Env} {K : Caller} {fr : Nat → AV} {h : AH}

theorem byteT_spec {t e : TypeId} (ht : byteT E t e = true) : ∃ ti ei, E.ty t = some ti ∧ ti.und = .slice e ∧ E.ty e = some ei ∧ ei.und = .int .u8 ∧ ei.size = 1 ∧ ei.bytes = 1 := by
  unfold byteT at ht
  split at ht
  case h_2 => cases ht
  rename_i ti ei h1 h2
  simp only [Bool.and_eq_true] at ht
  obtain ⟨a1, a2, a3, a4⟩ := ht
  refine ⟨ti, ei, h1, ?_, h2, ?_, Nat.eq_of_beq_eq_true a3, Nat.eq_of_beq_eq_true a4⟩
  · split at a1
    · rename_i e' hu; rw [hu, Nat.eq_of_beq_eq_true a1]
    · cases a1
  · split at a2
    · assumption
    · cases a2

theorem BS.news {v : AV} {bs : List UInt8} (hb : BS h v bs) : newsOf h 1 v = some (bs.length, u8s bs) := by
  cases v <;> simp only [BS] at hb
  case sl i o n c l =>
    obtain ⟨⟨rfl, _⟩, h2, cs, t, m, h3, h4, h5⟩ := hb
    simp only [newsOf, getCells, h3, Nat.mul_one]
    rw [Nat.ble_eq_true_of_le h4, cond_true, h5]
  case emp => subst hb; rfl
  case nils => subst hb; rfl

theorem setFrom_nil (cs : List AV) (o : Nat) : setFrom cs o [] = cs := rfl

theorem append_own {t t' e : TypeId} (ht : byteT E t e = true) (ht' : seqT E t' = true) {v x : AV} {bs xs : List UInt8} (ho : Own e h v bs) (hx : newsOf h 1 x = some (xs.length, u8s xs)) (hn : bs.length + xs.length ≤ 140737488355328) :
    ∃ v' h', eBuiltin E h .append [v, x] [t, t'] = some (v', h') ∧ Own e h' v' (bs ++ xs) ∧ Grew h h' v v' := by
  obtain ⟨ti, ei, h1, h2, h3, h4, h5, h6⟩ := byteT_spec ht
  have hap : eBuiltin E h .append [v, x] [t, t'] = aAppend h e ei v xs.length (u8s xs) := by
    unfold seqT at ht'
    split at ht'
    case h_2 => cases ht'
    rename_i xi hxi
    simp only [eBuiltin, h1, h2, h3, h5, h6, hxi, hx]
    split at ht'
    · rename_i hu; simp only [hu]; rfl
    · rename_i hu; simp only [hu]; rfl
    · cases ht'
  rw [hap]
  unfold aAppend
  by_cases h0 : xs = []
  · subst h0
    simp only [List.length_nil, List.append_nil]
    rcases ho with ⟨rfl, rfl⟩ | ⟨i, hi, hh⟩
    · exact ⟨.nils, h, rfl, .inl ⟨rfl, rfl⟩, Grew.refl _ _⟩
    · have : ∃ a b c d l, v = .sl a b c d l := by rcases hh with ⟨rfl, _⟩ | ⟨rfl, _⟩ <;> exact ⟨_, _, _, _, _, rfl⟩
      obtain ⟨a, b, c, d, l, rfl⟩ := this
      exact ⟨_, h, rfl, .inr ⟨i, hi, hh⟩, Grew.refl _ _⟩
  · have hl : xs.length ≠ 0 := fun e => h0 (List.eq_nil_of_length_eq_zero e)
    rw [show Nat.beq xs.length 0 = false from beqF hl, cond_false]
    rcases ho with ⟨rfl, rfl⟩ | ⟨i, hi, ⟨rfl, hg⟩ | ⟨rfl, hg⟩⟩
    · simp only [h6, Nat.mul_one]
      rw [Nat.ble_eq_true_of_le (by simpa using hn), cond_true]
      refine ⟨_, _, rfl, .inr ⟨h.next, Nat.lt_succ_self _, .inr ⟨by simp, by rw [get_push, if_pos rfl]; simp⟩⟩, ⟨(Keep.push h _).mono (by simp), fun i hi => ?_⟩⟩
      simp [ids] at hi
      exact .inr (by omega)
    · simp only [h5, h6, Nat.mul_one]
      have hb : Nat.ble (bs.length + xs.length) bs.length = false := by
        cases hb : Nat.ble (bs.length + xs.length) bs.length
        · rfl
        · have := Nat.le_of_ble_eq_true hb; omega
      rw [hb, cond_false]
      simp only [getCells, hg, Nat.zero_add, u8s_length]
      rw [Nat.ble_eq_true_of_le (Nat.le_refl _), cond_true]
      simp only
      rw [Nat.ble_eq_true_of_le hn, cond_true]
      refine ⟨_, _, rfl, .inr ⟨h.next, Nat.lt_succ_self _, .inr ⟨by simp, ?_⟩⟩, ⟨(Keep.push h _).mono (by simp), fun j hj => ?_⟩⟩
      · rw [get_push, if_pos rfl, List.drop_zero, u8s_append]
        congr 2
        rw [← u8s_length bs, List.take_length]
      · simp [ids] at hj
        exact .inr (by omega)
    · simp only [hg, h5, h6, Nat.mul_one, u8s_length]
      rw [show Nat.beq bs.length bs.length = true from by simp, u8s_atom, Nat.ble_eq_true_of_le hn]
      simp only [decide_true, Bool.and_self, cond_true]
      refine ⟨_, _, rfl, .inr ⟨h.next, Nat.lt_succ_self _, .inr ⟨by simp, ?_⟩⟩, ⟨?_, fun j hj => ?_⟩⟩
      · rw [get_push, if_pos (next_set h i .dead).symm, u8s_append]
      · exact ((Keep.set h i .dead).trans (Keep.push _ _)).mono (by simp [ids])
      · simp [ids] at hj
        exact .inr (by simpa [next_set] using Nat.le_of_eq hj.symm)

theorem conv_bytes {s d e : TypeId} (hs : byteT E s e = true) (hd : strT E d = true) {v : AV} {bs : List UInt8} (hb : BS h v bs) : aConvQ E h s d v = some (.str bs) := by
  obtain ⟨ti, ei, h1, h2, h3, h4, h5, h6⟩ := byteT_spec hs
  unfold strT at hd
  split at hd
  case h_2 => cases hd
  rename_i di e1
  split at hd
  case h_2 => cases hd
  rename_i e2
  unfold aConvQ
  simp only [h1, e1, e2]
  cases v <;> simp only [BS] at hb <;> simp only [h2, h3, h4]
  case sl i o n c l =>
    obtain ⟨⟨rfl, _⟩, _, cs, t, m, h7, h8, h9⟩ := hb
    simp only [h7]
    rw [Nat.ble_eq_true_of_le h8, cond_true, h9, bytesOf_u8s]
  case emp => rw [hb]
  case nils => rw [hb]

theorem len_bytes {t e : TypeId} (ht : byteT E t e = true) {v : AV} {bs : List UInt8} (hb : BS h v bs) : qBuiltin E h .len [v] [t] = some (.int .i64 bs.length) := by
  obtain ⟨ti, ei, h1, h2, _⟩ := byteT_spec ht
  have : sliceT E t = true := by simp [sliceT, h1, h2]
  cases v <;> simp only [BS] at hb
  case sl i o n c l => rw [len_sl this, hb.1.1]
  case emp => rw [len_emp this, hb]; rfl
  case nils => rw [len_nils this, hb]; rfl

theorem newsOf_str {s : List UInt8} : newsOf h 1 (.str s) = some (s.length, u8s s) := rfl

theorem index_bytes {t e : TypeId} (ht : byteT E t e = true) {v : AV} {bs : List UInt8} (hb : BS h v bs) {k : IntKind} {j : Nat} (hj : j < bs.length) :
    ∃ p, aIndexAt E t v (.int k j) = some p ∧ aLoad E h e p = some (.int .u8 (bs[j]).toNat) := by
  obtain ⟨ti, ei, h1, h2, h3, h4, h5, h6⟩ := byteT_spec ht
  cases v <;> simp only [BS] at hb
  case sl i o n c l =>
    obtain ⟨⟨rfl, _⟩, _, cs, t', m, h7, h8, h9⟩ := hb
    refine ⟨.ptr i (o + j), ?_, ?_⟩
    · rw [aIndexAt_sl (e := e) (sz := 1) (by simp [elemT, h1, h2, h3, h5]) (by omega) (by simpa using hj)]
      simp
    · rw [aLoad_ptr, h7, loadAt_atom (by simp [atomT, h3, h4, aggOf])]
      have : ((cs.drop o).take bs.length)[j]? = (u8s bs)[j]? := by rw [h9]
      rw [List.getElem?_take, if_pos hj, List.getElem?_drop] at this
      rw [this]
      simp [u8s, hj]
  case emp => subst hb; simp at hj
  case nils => subst hb; simp at hj

theorem asN_nat {k : IntKind} {j : Nat} : asN (.int k j) = some j := by simp [asN]

theorem BS.part {i o c d : Nat} {l l' : Bool} {bs : List UInt8} (hb : BS h (.sl i o bs.length c l) bs) {a b : Nat} (hab : a ≤ b) (hbn : b ≤ bs.length) (hd : l' = false → b - a ≤ d) : BS h (.sl i (o + a) (b - a) d l') ((bs.take b).drop a) := by
  obtain ⟨_, hi, cs, t', m, h7, h8, h9⟩ := hb
  refine ⟨⟨by simp; omega, hd⟩, hi, cs, t', m, h7, by omega, ?_⟩
  have e1 : u8s ((bs.take b).drop a) = ((u8s bs).take b).drop a := by simp [u8s, List.map_drop, List.map_take]
  rw [e1, ← h9, List.take_take, Nat.min_eq_left hbn, List.drop_take, List.drop_drop]

/-- A part of a slice of bytes; the bounds are told or not. -/
theorem slice_bytes {t e : TypeId} (ht : byteT E t e = true) {v : AV} {bs : List UInt8} (hb : BS h v bs) {lo hi : Option AV} {a b : Nat} (hlo : lo = none ∧ a = 0 ∨ ∃ k, lo = some (.int k a)) (hhi : hi = none ∧ b = bs.length ∨ ∃ k, hi = some (.int k b)) (hab : a ≤ b) (hbn : b ≤ bs.length) :
    ∃ v', aSlice E t v lo hi none = some v' ∧ BS h v' ((bs.take b).drop a) ∧ (∀ i ∈ ids v', i ∈ ids v) := by
  obtain ⟨ti, ei, h1, h2, h3, h4, h5, h6⟩ := byteT_spec ht
  have bnd : ∀ (x : Option AV) (d top k : Nat), (x = none ∧ k = d ∨ ∃ q, x = some (.int q k)) → k ≤ top → aBnd x d top = some k := by
    intro x d top k hx hk
    rcases hx with ⟨rfl, rfl⟩ | ⟨q, rfl⟩
    · rfl
    · simp only [aBnd, asN_nat, Nat.ble_eq_true_of_le hk, cond_true]
  unfold aSlice
  cases v <;> simp only [BS] at hb <;> simp only [h1, h2, h3]
  case sl i o n c l =>
    have hb0 : BS h (.sl i o n c l) bs := hb
    obtain ⟨⟨rfl, hc⟩, hi', cs, t', m, h7, h8, h9⟩ := hb
    cases l with
    | true =>
      simp only
      rw [bnd hi bs.length bs.length b hhi hbn]
      simp only
      rw [bnd lo 0 b a hlo hab]
      simp only [h3, h5]
      by_cases ha : a = 0
      · subst ha
        refine ⟨_, rfl, ?_, by simp [ids]⟩
        have := hb0.part (d := 0) (l' := true) hab hbn (by simp)
        simpa using this
      · rw [show Nat.beq a 0 = false from beqF ha, cond_false]
        by_cases hal : a = bs.length
        · subst hal
          rw [show Nat.beq bs.length bs.length = true from by simp, cond_true]
          refine ⟨_, rfl, ?_, by simp [ids]⟩
          simp only [BS]
          simp
          omega
        · rw [show Nat.beq a bs.length = false from beqF hal, cond_false]
          refine ⟨_, rfl, ?_, by simp [ids]⟩
          have := hb0.part (d := 0) (l' := true) hab hbn (by simp)
          simpa using this
    | false =>
      have hc := hc rfl
      simp only [show aBnd none c c = some c from rfl, h3]
      rw [bnd hi bs.length c b hhi (by omega)]
      simp only
      rw [bnd lo 0 b a hlo hab]
      simp only [h5, Nat.mul_one]
      refine ⟨_, rfl, ?_, by simp [ids]⟩
      have hp := hb0.part (d := c - a) (l' := false) hab hbn (by omega)
      by_cases hca : c = a
      · have hab' : b = a := by omega
        subst hca hab'
        rw [show Nat.beq b b = true from by simp, cond_true]
        refine ⟨⟨by simp, fun _ => by omega⟩, hi', cs, t', m, h7, by omega, by simp [u8s]⟩
      · rw [show Nat.beq c a = false from beqF hca, cond_false]
        exact hp
  case emp =>
    subst hb
    have : b = 0 := by simpa using hbn
    subst this
    have : a = 0 := by omega
    subst this
    rw [bnd hi 0 0 0 (by simpa using hhi) (Nat.le_refl _)]
    simp only
    rw [bnd lo 0 0 0 hlo (Nat.le_refl _)]
    exact ⟨_, rfl, rfl, by simp [ids]⟩
  case nils =>
    subst hb
    have : b = 0 := by simpa using hbn
    subst this
    have : a = 0 := by omega
    subst this
    rw [bnd hi 0 0 0 (by simpa using hhi) (Nat.le_refl _)]
    simp only
    rw [bnd lo 0 0 0 hlo (Nat.le_refl _)]
    exact ⟨_, rfl, rfl, by simp [ids]⟩
end
end Go.Proofs.Yteblojfcalgoeaa

/- Numbers of fixed width, as natural numbers. Conditions: none. -/
set_option linter.unusedVariables false
namespace Go.Proofs.Yteblojfcalgoeaa
open Go Go.RowKit

theorem w_u8 (n : Nat) : IntKind.u8.wrap (n : Int) = ((n % 256 : Nat) : Int) := by simp [IntKind.wrap, IntKind.bits, IntKind.signed]
theorem w_u16 (n : Nat) : IntKind.u16.wrap (n : Int) = ((n % 65536 : Nat) : Int) := by simp [IntKind.wrap, IntKind.bits, IntKind.signed]
theorem w_u32 (n : Nat) : IntKind.u32.wrap (n : Int) = ((n % 4294967296 : Nat) : Int) := by simp [IntKind.wrap, IntKind.bits, IntKind.signed]
theorem w_u64 (n : Nat) : IntKind.u64.wrap (n : Int) = ((n % 18446744073709551616 : Nat) : Int) := by simp [IntKind.wrap, IntKind.bits, IntKind.signed]
theorem w_u64_in (n : Nat) (h : n < 18446744073709551616) : IntKind.u64.wrap (n : Int) = (n : Int) := by rw [w_u64, Nat.mod_eq_of_lt h]
theorem w_u8_in (n : Nat) (h : n < 256) : IntKind.u8.wrap (n : Int) = (n : Int) := by rw [w_u8, Nat.mod_eq_of_lt h]
theorem w_i64_in (n : Nat) (h : n < 9223372036854775808) : IntKind.i64.wrap (n : Int) = (n : Int) := wrap_i64 (by omega)

theorem shr_nat (a b : Nat) : (a : Int).fdiv (2 ^ b) = ((a / 2 ^ b : Nat) : Int) := by
  rw [Int.fdiv_eq_ediv_of_nonneg _ (by exact Int.pow_nonneg (by decide))]
  norm_cast

theorem byte_of (n : Nat) : ((UInt8.ofNat n).toNat : Int) = ((n % 256 : Nat) : Int) := by simp

theorem or128 (n : Nat) (h : n < 256) : orI .u8 (n : Int) 128 = ((n % 128 + 128 : Nat) : Int) := by
  have key : ∀ n : Nat, n < 256 → orI .u8 (n : Int) 128 = ((n % 128 + 128 : Nat) : Int) := by decide +kernel
  exact key n h

theorem ofInt_toNat (w a : Nat) (h : a < 2 ^ w) : (BitVec.ofInt w (a : Int)).toNat = a := by
  simp [BitVec.toNat_ofNat, Nat.mod_eq_of_lt h]
theorem or_u64 (a b : Nat) (ha : a < 18446744073709551616) (hb : b < 18446744073709551616) : orI .u64 (a : Int) (b : Int) = ((a ||| b : Nat) : Int) := by
  have h : (BitVec.ofInt 64 (a : Int) ||| BitVec.ofInt 64 (b : Int)).toNat = a ||| b := by
    rw [BitVec.toNat_or, ofInt_toNat 64 a ha, ofInt_toNat 64 b hb]
  show IntKind.u64.wrap (((BitVec.ofInt 64 (a : Int) ||| BitVec.ofInt 64 (b : Int)).toNat : Nat) : Int) = _
  rw [h, w_u64_in _ (Nat.or_lt_two_pow (n := 64) ha hb)]
theorem and_u64 (a b : Nat) (ha : a < 18446744073709551616) (hb : b < 18446744073709551616) : andI .u64 (a : Int) (b : Int) = ((a &&& b : Nat) : Int) := by
  have h : (BitVec.ofInt 64 (a : Int) &&& BitVec.ofInt 64 (b : Int)).toNat = a &&& b := by
    rw [BitVec.toNat_and, ofInt_toNat 64 a ha, ofInt_toNat 64 b hb]
  show IntKind.u64.wrap (((BitVec.ofInt 64 (a : Int) &&& BitVec.ofInt 64 (b : Int)).toNat : Nat) : Int) = _
  rw [h, w_u64_in _ (Nat.lt_of_le_of_lt Nat.and_le_left ha)]
end Go.Proofs.Yteblojfcalgoeaa

/- The abstract machine: a deferring function, as a predicate to be walked. Conditions: none. -/
set_option linter.unusedVariables false
namespace Go.Proofs.Yteblojfcalgoeaa
open Go Go.RowKit

/-- Behind the closure's last piece. -/
def RecE (Q : AH → Prop) : CR → Prop
  | .go 0 _ h => Q h
  | .go 1 _ h => Q h
  | _ => False
def recO (E : Env) (K : Caller) (m : Nat) (D : Defer) (v : AV) (caps : List AV) (h : AH) (Q : AH → Prop) (L : Option (List LOp)) : Prop :=
  match L with
  | some L => wOps E K (SeqQ (fun fr h' => wCode E K m (slim E (max D.F0.ntmps caps.length) D.rest0) fr h' (RecE Q)) fun _ => False) L [] (setF (frame0 caps) (some D.s0) v) h
  | none => False
def recW (E : Env) (K : Caller) (m : Nat) (D : Defer) (v : AV) (caps : List AV) (h : AH) (Q : AH → Prop) : Prop :=
  Nat.blt D.s0 (max D.F0.ntmps caps.length) = true ∧ recO E K m D v caps h Q (seqOps E (max D.F0.ntmps caps.length) (D.r0 :: D.os0) D.os0)
/-- Behind what is called at the end. -/
def CallE (E : Env) (K : Caller) (m : Nat) (D : Defer) (caps : List AV) (Q : Out → Prop) : CR → Prop
  | .go 0 _ h => recW E K m D .nili caps h fun h => Q (.ret (.tup []) h)
  | .pan v h => recW E K m D v caps h fun h => Q (.ret (.tup []) h)
  | _ => False
def Third (E : Env) (K : Caller) (m nt : Nat) (D : Defer) (Q : Out → Prop) : CR → Prop
  | .go 0 fr h => wCode E K m (slim E nt D.G) (setF fr (some D.s) (.fn (.func D.g) [] [fr D.x, fr D.y])) h (CallE E K m D [fr D.x, fr D.y] Q)
  | _ => False
def Second (E : Env) (K : Caller) (m nt : Nat) (D : Defer) (Q : Out → Prop) : CR → Prop
  | .go 0 fr h => wCode E K m (slim E nt D.A3) fr h (Third E K m nt D Q)
  | .go 1 _ h => Q (.ret (.tup []) h)
  | _ => False
def First (E : Env) (K : Caller) (m nt : Nat) (D : Defer) (Q : Out → Prop) : CR → Prop
  | .go 0 fr h => wCode E K m (slim E nt D.A2) fr h (Second E K m nt D Q)
  | _ => False
def wDefer (E : Env) (K : Caller) (m : Nat) (D : Defer) (args : List AV) (h : AH) (Q : Out → Prop) : Prop :=
  (Nat.blt D.s (max D.F.ntmps args.length) && (E.fn D.g).isSome) = true ∧ wCode E K m (slim E (max D.F.ntmps args.length) D.A1) (frame0 args) h (First E K m (max D.F.ntmps args.length) D Q)

section
variable {E : Env} {K : Caller} {m : Nat} {D : Defer}

theorem recW_sound {v : AV} {caps : List AV} {h : AH} {Q : AH → Prop} (hw : recW E K m D v caps h Q) : ∃ h', recRun E K m D v caps h = some h' ∧ Q h' := by
  obtain ⟨h1, h0⟩ := hw
  cases h2 : seqOps E (max D.F0.ntmps caps.length) (D.r0 :: D.os0) D.os0 with
  | none => rw [h2] at h0; exact h0.elim
  | some L =>
  rw [h2] at h0
  have h3 : wOps E K (SeqQ (fun fr h' => wCode E K m (slim E (max D.F0.ntmps caps.length) D.rest0) fr h' (RecE Q)) fun _ => False) L [] (setF (frame0 caps) (some D.s0) v) h := h0
  obtain ⟨r, h4, h5⟩ := wOps_seq _ _ _ _ _ h2 h3
  unfold recRun
  rw [h1, cond_true, h4]
  match r, h5 with
  | .go 0 fr h', h5 =>
    obtain ⟨r2, h6, h7⟩ := wCode_sound _ _ _ _ h5
    simp only [h6]
    match r2, h7 with
    | .go 0 _ h'', h7 => exact ⟨_, rfl, h7⟩
    | .go 1 _ h'', h7 => exact ⟨_, rfl, h7⟩
    | .go (k + 2) _ _, h7 => exact h7.elim
    | .pan _ _, h7 => exact h7.elim
  | .go (k + 1) _ _, h5 => exact h5.elim
  | .pan _ _, h5 => exact h5.elim

theorem wDefer_sound {args : List AV} {h : AH} {Q : Out → Prop} (hw : wDefer E K m D args h Q) : ∃ out, defSpec E m D K args h = some out ∧ Q out := by
  obtain ⟨h1, h2⟩ := hw
  unfold defSpec
  simp only
  rw [h1, cond_true]
  obtain ⟨r1, e1, q1⟩ := wCode_sound _ _ _ _ h2
  simp only [e1]
  match r1, q1 with
  | .go (k + 1) _ _, q1 => exact q1.elim
  | .pan _ _, q1 => exact q1.elim
  | .go 0 fr1 g1, q1 =>
    obtain ⟨r2, e2, q2⟩ := wCode_sound _ _ _ _ q1
    simp only [e2]
    match r2, q2 with
    | .go 1 _ g2, q2 => exact ⟨_, rfl, q2⟩
    | .go (k + 2) _ _, q2 => exact q2.elim
    | .pan _ _, q2 => exact q2.elim
    | .go 0 fr2 g2, q2 =>
      obtain ⟨r3, e3, q3⟩ := wCode_sound _ _ _ _ q2
      simp only [e3]
      match r3, q3 with
      | .go (k + 1) _ _, q3 => exact q3.elim
      | .pan _ _, q3 => exact q3.elim
      | .go 0 fr3 g3, q3 =>
        obtain ⟨r4, e4, q4⟩ := wCode_sound _ _ _ _ q3
        simp only [e4]
        match r4, q4 with
        | .go (k + 1) _ _, q4 => exact q4.elim
        | .go 0 _ g4, q4 =>
          obtain ⟨g5, e5, q5⟩ := recW_sound q4
          simp only [e5]
          exact ⟨_, rfl, q5⟩
        | .pan v g4, q4 =>
          obtain ⟨g5, e5, q5⟩ := recW_sound q4
          simp only [e5]
          exact ⟨_, rfl, q5⟩

theorem Con.of_defer {P : Program} {sp : FuncId → Option Spec} {m d : Nat} {f g : FuncId} {args : List AV} {h : AH} {Q : Out → Prop} (hs : sp f = some (deferSpec P E m f g)) (hD : deferOf P f g = some D) (hw : ∀ n, d ≤ n → wDefer E (aCall E sp m n) m D args h Q) : Con E sp m (d + 1) f args h Q := by
  intro n hn
  obtain ⟨k, rfl⟩ : ∃ k, n = k + 1 := ⟨n - 1, by omega⟩
  simp only [aCall, hs, deferSpec, hD]
  exact wDefer_sound (hw k (by omega))

@[go_sem] theorem First_go {nt : Nat} {Q : Out → Prop} {fr : Nat → AV} {h : AH} : First E K m nt D Q (.go 0 fr h) = wCode E K m (slim E nt D.A2) fr h (Second E K m nt D Q) := (rfl)
@[go_sem] theorem Second_go {nt : Nat} {Q : Out → Prop} {fr : Nat → AV} {h : AH} : Second E K m nt D Q (.go 0 fr h) = wCode E K m (slim E nt D.A3) fr h (Third E K m nt D Q) := (rfl)
@[go_sem] theorem Second_ret {nt : Nat} {Q : Out → Prop} {fr : Nat → AV} {h : AH} : Second E K m nt D Q (.go 1 fr h) = Q (.ret (.tup []) h) := (rfl)
@[go_sem] theorem Third_go {nt : Nat} {Q : Out → Prop} {fr : Nat → AV} {h : AH} : Third E K m nt D Q (.go 0 fr h) = wCode E K m (slim E nt D.G) (setF fr (some D.s) (.fn (.func D.g) [] [fr D.x, fr D.y])) h (CallE E K m D [fr D.x, fr D.y] Q) := (rfl)
@[go_sem] theorem CallE_go {caps : List AV} {Q : Out → Prop} {fr : Nat → AV} {h : AH} : CallE E K m D caps Q (.go 0 fr h) = recW E K m D .nili caps h fun h => Q (.ret (.tup []) h) := (rfl)
@[go_sem] theorem CallE_pan {caps : List AV} {Q : Out → Prop} {v : AV} {h : AH} : CallE E K m D caps Q (.pan v h) = recW E K m D v caps h fun h => Q (.ret (.tup []) h) := (rfl)
@[go_sem] theorem recO_some {v : AV} {caps : List AV} {h : AH} {Q : AH → Prop} {L : List LOp} : recO E K m D v caps h Q (some L) = wOps E K (SeqQ (fun fr h' => wCode E K m (slim E (max D.F0.ntmps caps.length) D.rest0) fr h' (RecE Q)) fun _ => False) L [] (setF (frame0 caps) (some D.s0) v) h := (rfl)
@[go_sem] theorem st_typeAssert {fr : Nat → AV} {h : AH} {x : Operand} {t t' : TypeId} : aStep E K true fr h (.typeAssert x t' t true) = valO (aAssert E t (ev fr x)) h := (rfl)
@[go_sem] theorem RecE_go {Q : AH → Prop} {fr : Nat → AV} {h : AH} : RecE Q (.go 0 fr h) = Q h := (rfl)
@[go_sem] theorem RecE_ret {Q : AH → Prop} {fr : Nat → AV} {h : AH} : RecE Q (.go 1 fr h) = Q h := (rfl)
end

/-! ### Pieces of code -/
def seqL : Code → Code
  | .seq a _ => a
  | c => c
def seqR : Code → Code
  | .seq _ b => b
  | c => c
def regOps : Code → List Oper
  | .region _ ops _ => ops.toList
  | _ => []
def regId : Code → Nat
  | .region id _ _ => id
  | _ => 0
def operAt (l : List Oper) (i : Nat) : Oper := (l[i]?).getD ⟨none, .move (.tmp 0), 0, "", #[], none⟩

/-! ### Boxes and stores of single cells -/
section
variable {E : Env} {h : AH}
theorem atom_good {v : AV} (ha : v.atom = true) : v.good = true ∧ v.cells = [v] := by
  cases v <;> simp [AV.atom, AV.good, AV.cells] at *
theorem boxV_atom {t : TypeId} {v : AV} (ha : v.atom = true) : boxV t v h = some (.val (.ptr h.next 0) (h.push (.cells [v] t .own))) := by
  obtain ⟨h1, h2⟩ := atom_good ha
  simp [boxV, h1, h2, ha]
theorem storeO_atom {t t' : TypeId} {o : Nat} {v : AV} {cs : List AV} {m : Mode} (ht : sizeT E t = some 1) (ha : v.atom = true) (hm : m ≠ .ro) (ho : o < cs.length) : storeO E t o v (.cells cs t' m) = some (.cells (cs.set o v) t' m) := by
  obtain ⟨h1, h2⟩ := atom_good ha
  unfold sizeT at ht
  split at ht
  case h_2 => cases ht
  rename_i ti e
  have hsz : ti.size = 1 := by simpa using ht
  have : Nat.ble (o + 1) cs.length = true := Nat.ble_eq_true_of_le ho
  simp [storeO, e, h1, h2, ha, hm, setFrom, this, hsz]
@[go_sem] theorem storeV_ptr {t : TypeId} {i o : Nat} {v : AV} : storeV E h t (.ptr i o) v = putO h i (storeO E t o v (h.get i)) := (rfl)
@[go_sem] theorem putO_some {i : Nat} {ob : AO} : putO h i (some ob) = some (.val .bad (h.set i ob)) := (rfl)
theorem get_push_new {i : Nat} {o : AO} (hi : i = h.next) : (h.push o).get i = o := by rw [get_push, if_pos hi]
theorem get_push_old {i : Nat} {o : AO} (hi : i < h.next) : (h.push o).get i = h.get i := by rw [get_push, if_neg (Nat.ne_of_lt hi)]
theorem get_set_same {i : Nat} {o : AO} : (h.set i o).get i = o := by rw [get_set, if_pos rfl]
theorem get_set_ne {i j : Nat} {o : AO} (hi : i ≠ j) : (h.set j o).get i = h.get i := by rw [get_set, if_neg hi]
@[go_sem] theorem boxV_int {t : TypeId} {k : IntKind} {n : Int} : boxV t (.int k n) h = some (.val (.ptr h.next 0) (h.push (.cells [.int k n] t .own))) := boxV_atom rfl
@[go_sem] theorem boxV_bool {t : TypeId} {b : Bool} : boxV t (.bool b) h = some (.val (.ptr h.next 0) (h.push (.cells [.bool b] t .own))) := boxV_atom rfl
@[go_sem] theorem boxV_str {t : TypeId} {s : List UInt8} : boxV t (.str s) h = some (.val (.ptr h.next 0) (h.push (.cells [.str s] t .own))) := boxV_atom rfl
@[go_sem] theorem boxV_sl {t : TypeId} {i o n c : Nat} {l : Bool} : boxV t (.sl i o n c l) h = some (.val (.ptr h.next 0) (h.push (.cells [.sl i o n c l] t .own))) := boxV_atom rfl
@[go_sem] theorem boxV_nils {t : TypeId}  : boxV t (.nils) h = some (.val (.ptr h.next 0) (h.push (.cells [.nils] t .own))) := boxV_atom rfl
@[go_sem] theorem boxV_emp {t : TypeId}  : boxV t (.emp) h = some (.val (.ptr h.next 0) (h.push (.cells [.emp] t .own))) := boxV_atom rfl
@[go_sem] theorem boxV_ptr {t : TypeId} {i o : Nat} : boxV t (.ptr i o) h = some (.val (.ptr h.next 0) (h.push (.cells [.ptr i o] t .own))) := boxV_atom rfl
@[go_sem] theorem boxV_nilp {t : TypeId}  : boxV t (.nilp) h = some (.val (.ptr h.next 0) (h.push (.cells [.nilp] t .own))) := boxV_atom rfl
@[go_sem] theorem boxV_nilm {t : TypeId}  : boxV t (.nilm) h = some (.val (.ptr h.next 0) (h.push (.cells [.nilm] t .own))) := boxV_atom rfl
@[go_sem] theorem boxV_map {t : TypeId} {i : Nat} : boxV t (.map i) h = some (.val (.ptr h.next 0) (h.push (.cells [.map i] t .own))) := boxV_atom rfl
end
@[go_sem] theorem bb_ff : (false == false) = true := (rfl)
@[go_sem] theorem bb_tf : (true == false) = false := (rfl)
@[go_sem] theorem bb_ft : (false == true) = false := (rfl)
@[go_sem] theorem bb_tt : (true == true) = true := (rfl)
@[go_sem] theorem int_bne (a : Int) : (a != a) = false := by simp
@[go_sem] theorem int_beq (a : Int) : (a == a) = true := by simp
@[go_sem] theorem not_t : (!true) = false := (rfl)
@[go_sem] theorem not_f : (!false) = true := (rfl)
end Go.Proofs.Yteblojfcalgoeaa

/- The abstract machine: slices of any elements, what they hold, and what is done with them. Conditions: none. -/
set_option linter.unusedVariables false
namespace Go.Proofs.Yteblojfcalgoeaa
open Go Go.RowKit

/-- A type of slices: its element type, how many cells and bytes an element has. -/
def slT (E : Env) (t e sz by_ : Nat) : Bool :=
  match E.ty t, E.ty e with
  | some ti, some ei => (match ti.und with | .slice e' => Nat.beq e' e | _ => false) && (Nat.beq ei.size sz && (Nat.beq ei.bytes by_ && (Nat.blt 0 sz && Nat.blt 0 by_)))
  | _, _ => false
theorem slT_spec {E : Env} {t e sz by_ : Nat} (h : slT E t e sz by_ = true) : ∃ ti ei, E.ty t = some ti ∧ ti.und = .slice e ∧ E.ty e = some ei ∧ ei.size = sz ∧ ei.bytes = by_ ∧ 0 < sz ∧ 0 < by_ := by
  unfold slT at h
  split at h
  case h_2 => cases h
  rename_i ti ei h1 h2
  simp only [Bool.and_eq_true] at h
  obtain ⟨a1, a2, a3, a4, a5⟩ := h
  refine ⟨ti, ei, h1, ?_, h2, Nat.eq_of_beq_eq_true a2, Nat.eq_of_beq_eq_true a3, blt_lt a4, blt_lt a5⟩
  split at a1
  · rename_i e' hu; rw [hu, Nat.eq_of_beq_eq_true a1]
  · cases a1

/-- What a slice holds: how many elements, their cells. -/
def GS (sz : Nat) (h : AH) (v : AV) (n : Nat) (cs : List AV) : Prop :=
  match v with
  | .nils => n = 0 ∧ cs = []
  | .emp => n = 0 ∧ cs = []
  | .sl i o n' c l => (n' = n ∧ (l = false → n ≤ c)) ∧ cs.length = n * sz ∧ i < h.next ∧ ∃ cs' t m, h.get i = .cells cs' t m ∧ o + n * sz ≤ cs'.length ∧ (cs'.drop o).take (n * sz) = cs
  | _ => False
theorem GS.len {sz : Nat} {h : AH} {v : AV} {n : Nat} {cs : List AV} (hb : GS sz h v n cs) : cs.length = n * sz := by
  cases v <;> simp only [GS] at hb
  case sl => exact hb.2.1
  all_goals (obtain ⟨rfl, rfl⟩ := hb; simp)
theorem GS.keep {sz : Nat} {h h' : AH} {v : AV} {n : Nat} {cs : List AV} {S : List Nat} (hb : GS sz h v n cs) (k : Keep h h' S) (hs : ∀ i ∈ ids v, i ∉ S) : GS sz h' v n cs := by
  cases v <;> simp only [GS] at hb ⊢ <;> try exact hb
  obtain ⟨h1, h0, h2, cs', t, m, h3, h4, h5⟩ := hb
  exact ⟨h1, h0, Nat.lt_of_lt_of_le h2 k.next, cs', t, m, by rw [k.get _ h2 (hs _ (by simp [ids]))]; exact h3, h4, h5⟩
theorem GS.lt {sz : Nat} {h : AH} {v : AV} {n : Nat} {cs : List AV} (hb : GS sz h v n cs) : ∀ i ∈ ids v, i < h.next := by
  cases v <;> simp only [GS] at hb <;> simp [ids]
  exact hb.2.2.1
theorem GS.news {sz : Nat} {h : AH} {v : AV} {n : Nat} {cs : List AV} (hb : GS sz h v n cs) : newsOf h sz v = some (n, cs) := by
  cases v <;> simp only [GS] at hb
  case sl i o n' c l =>
    obtain ⟨⟨rfl, _⟩, _, h2, cs', t, m, h3, h4, h5⟩ := hb
    simp only [newsOf, getCells, h3]
    rw [Nat.ble_eq_true_of_le h4, cond_true, h5]
  case emp => obtain ⟨rfl, rfl⟩ := hb; rfl
  case nils => obtain ⟨rfl, rfl⟩ := hb; rfl

/-- A slice that is the code's own. -/
def OwnA (e sz : Nat) (h : AH) (v : AV) (n : Nat) (cs : List AV) : Prop :=
  (v = .nils ∧ n = 0 ∧ cs = []) ∨ (cs.length = n * sz ∧ cs.all AV.atom = true ∧ ∃ i, i < h.next ∧ ((v = .sl i 0 n n false ∧ h.get i = .cells cs e .own) ∨ (v = .sl i 0 n 0 true ∧ h.get i = .cells cs e .loose)))
theorem OwnA.gs {e sz : Nat} {h : AH} {v : AV} {n : Nat} {cs : List AV} (ho : OwnA e sz h v n cs) : GS sz h v n cs := by
  rcases ho with ⟨rfl, rfl, rfl⟩ | ⟨hl, _, i, hi, ⟨rfl, hg⟩ | ⟨rfl, hg⟩⟩
  · exact ⟨rfl, rfl⟩
  · exact ⟨⟨rfl, by simp⟩, hl, hi, _, _, _, hg, by omega, by rw [List.drop_zero, ← hl, List.take_length]⟩
  · exact ⟨⟨rfl, by simp⟩, hl, hi, _, _, _, hg, by omega, by rw [List.drop_zero, ← hl, List.take_length]⟩
theorem OwnA.keep {e sz : Nat} {h h' : AH} {v : AV} {n : Nat} {cs : List AV} {S : List Nat} (ho : OwnA e sz h v n cs) (k : Keep h h' S) (hs : ∀ i ∈ ids v, i ∉ S) : OwnA e sz h' v n cs := by
  rcases ho with ⟨rfl, rfl, rfl⟩ | ⟨hl, ha, i, hi, ⟨rfl, hg⟩ | ⟨rfl, hg⟩⟩
  · exact .inl ⟨rfl, rfl, rfl⟩
  · exact .inr ⟨hl, ha, i, Nat.lt_of_lt_of_le hi k.next, .inl ⟨rfl, by rw [k.get _ hi (hs _ (by simp [ids]))]; exact hg⟩⟩
  · exact .inr ⟨hl, ha, i, Nat.lt_of_lt_of_le hi k.next, .inr ⟨rfl, by rw [k.get _ hi (hs _ (by simp [ids]))]; exact hg⟩⟩
theorem OwnA.lt {e sz : Nat} {h : AH} {v : AV} {n : Nat} {cs : List AV} (ho : OwnA e sz h v n cs) : ∀ i ∈ ids v, i < h.next := ho.gs.lt
theorem OwnA.atom {e sz : Nat} {h : AH} {v : AV} {n : Nat} {cs : List AV} (ho : OwnA e sz h v n cs) : v.atom = true := by
  rcases ho with ⟨rfl, rfl, rfl⟩ | ⟨hl, ha, i, hi, ⟨rfl, hg⟩ | ⟨rfl, hg⟩⟩ <;> rfl
theorem OwnA.nil {e sz : Nat} {h : AH} : OwnA e sz h .nils 0 [] := .inl ⟨rfl, rfl, rfl⟩
theorem OwnA.own {e sz : Nat} {h : AH} {n : Nat} {cs : List AV} (hl : cs.length = n * sz) (ha : cs.all AV.atom = true) : OwnA e sz (h.push (.cells cs e .own)) (.sl h.next 0 n n false) n cs :=
  .inr ⟨hl, ha, h.next, Nat.lt_succ_self _, .inl ⟨rfl, get_push_new rfl⟩⟩
theorem OwnA.bytes {e : Nat} {h : AH} {v : AV} {n : Nat} {bs : List UInt8} (ho : OwnA e 1 h v n (u8s bs)) : Own e h v bs := by
  rcases ho with ⟨rfl, rfl, hb⟩ | ⟨hl, ha, i, hi, hh⟩
  · exact .inl ⟨rfl, List.eq_nil_of_length_eq_zero (by have := congrArg List.length hb; simpa [u8s] using this)⟩
  · have : n = bs.length := by rw [u8s_length] at hl; omega
    subst this
    exact .inr ⟨i, hi, hh⟩
theorem Own.gen {e : Nat} {h : AH} {v : AV} {bs : List UInt8} (ho : Own e h v bs) : OwnA e 1 h v bs.length (u8s bs) := by
  rcases ho with ⟨rfl, rfl⟩ | ⟨i, hi, hh⟩
  · exact .inl ⟨rfl, rfl, rfl⟩
  · exact .inr ⟨by simp [u8s_length], u8s_atom bs, i, hi, hh⟩

section
variable {E : Env} {h : AH}

theorem append_gen {t t' e sz by_ : Nat} (ht : slT E t e sz by_ = true) (ht' : seqT E t' = true) {v x : AV} {n m : Nat} {cs xs : List AV} (ho : OwnA e sz h v n cs) (hx : newsOf h sz x = some (m, xs)) (hxl : xs.length = m * sz) (hxa : xs.all AV.atom = true) (hn : (n + m) * by_ ≤ 140737488355328) :
    ∃ v' h', eBuiltin E h .append [v, x] [t, t'] = some (v', h') ∧ OwnA e sz h' v' (n + m) (cs ++ xs) ∧ Grew h h' v v' := by
  obtain ⟨ti, ei, h1, h2, h3, h4, h5, h6, h7⟩ := slT_spec ht
  have hap : eBuiltin E h .append [v, x] [t, t'] = aAppend h e ei v m xs := by
    unfold seqT at ht'
    split at ht'
    case h_2 => cases ht'
    rename_i xi hxi
    have b1 : Nat.blt 0 ei.size = true := Nat.ble_eq_true_of_le (by omega)
    have b2 : Nat.blt 0 ei.bytes = true := Nat.ble_eq_true_of_le (by omega)
    simp only [eBuiltin, h1, h2, h3, hxi, h4, hx]
    rw [h4] at b1
    rw [b1, b2]
    split at ht'
    · rename_i hu; simp only [hu]; rfl
    · rename_i hu; simp only [hu]; rfl
    · cases ht'
  rw [hap]
  unfold aAppend
  by_cases h0 : m = 0
  · subst h0
    have hxe : xs = [] := List.eq_nil_of_length_eq_zero (by simpa using hxl)
    subst hxe
    simp only [List.append_nil, Nat.add_zero]
    rcases ho with ⟨rfl, rfl, rfl⟩ | ⟨hl, ha, i, hi, hh⟩
    · exact ⟨.nils, h, rfl, .inl ⟨rfl, rfl, rfl⟩, Grew.refl _ _⟩
    · have : ∃ a b c d l, v = .sl a b c d l := by rcases hh with ⟨rfl, _⟩ | ⟨rfl, _⟩ <;> exact ⟨_, _, _, _, _, rfl⟩
      obtain ⟨a, b, c, d, l, rfl⟩ := this
      exact ⟨_, h, rfl, .inr ⟨hl, ha, i, hi, hh⟩, Grew.refl _ _⟩
  · rw [show Nat.beq m 0 = false from beqF h0, cond_false]
    rcases ho with ⟨rfl, rfl, rfl⟩ | ⟨hl, ha, i, hi, ⟨rfl, hg⟩ | ⟨rfl, hg⟩⟩
    · simp only [h5]
      rw [Nat.ble_eq_true_of_le (by simpa using hn), cond_true]
      refine ⟨_, _, rfl, .inr ⟨by simpa using hxl, by simpa using hxa, h.next, Nat.lt_succ_self _, .inr ⟨by simp, by rw [get_push, if_pos rfl]; simp⟩⟩, ⟨(Keep.push h _).mono (by simp), fun i hi => ?_⟩⟩
      simp [ids] at hi
      exact .inr (by omega)
    · simp only [h4, h5]
      have hb : Nat.ble (n + m) n = false := by
        cases hb : Nat.ble (n + m) n
        · rfl
        · have := Nat.le_of_ble_eq_true hb; omega
      rw [hb, cond_false]
      simp only [getCells, hg, Nat.zero_add]
      rw [← hl, Nat.ble_eq_true_of_le (Nat.le_refl _), cond_true]
      simp only
      rw [Nat.ble_eq_true_of_le hn, cond_true, List.drop_zero, List.take_length]
      refine ⟨_, _, rfl, .inr ⟨by rw [List.length_append, hl, hxl, Nat.add_mul], by rw [List.all_append, ha, hxa]; rfl, h.next, Nat.lt_succ_self _, .inr ⟨rfl, get_push_new rfl⟩⟩, ⟨(Keep.push h _).mono (by simp), fun j hj => ?_⟩⟩
      simp [ids] at hj
      exact .inr (by omega)
    · simp only [hg, h4, h5]
      rw [← hl, show Nat.beq cs.length cs.length = true from by simp, hxa, Nat.ble_eq_true_of_le hn]
      simp only [decide_true, Bool.and_self, cond_true]
      refine ⟨_, _, rfl, .inr ⟨by rw [List.length_append, hl, hxl, Nat.add_mul], by rw [List.all_append, ha, hxa]; rfl, h.next, Nat.lt_succ_self _, .inr ⟨rfl, get_push_new (next_set h i .dead).symm⟩⟩, ⟨?_, fun j hj => ?_⟩⟩
      · exact ((Keep.set h i .dead).trans (Keep.push _ _)).mono (by simp [ids])
      · simp [ids] at hj
        exact .inr (by simpa [next_set] using Nat.le_of_eq hj.symm)

theorem len_gen {t e sz by_ : Nat} (ht : slT E t e sz by_ = true) {v : AV} {n : Nat} {cs : List AV} (hb : GS sz h v n cs) : qBuiltin E h .len [v] [t] = some (.int .i64 n) := by
  obtain ⟨ti, ei, h1, h2, _⟩ := slT_spec ht
  have : sliceT E t = true := by simp [sliceT, h1, h2]
  cases v <;> simp only [GS] at hb
  case sl i o n c l => rw [len_sl this, hb.1.1]
  case emp => rw [len_emp this, hb.1]; rfl
  case nils => rw [len_nils this, hb.1]; rfl

/-- One element's place: what is loaded there. -/
theorem index_gen {t e sz by_ : Nat} (ht : slT E t e sz by_ = true) {v : AV} {n : Nat} {cs : List AV} (hb : GS sz h v n cs) {k : IntKind} {j : Nat} (hj : j < n) :
    ∃ i o, aIndexAt E t v (.int k j) = some (.ptr i o) ∧ i ∈ ids v ∧ ∃ cs' t' m, h.get i = .cells cs' t' m ∧ o + sz ≤ cs'.length ∧ ∀ d, d < sz → cs'[o + d]? = cs[j * sz + d]? := by
  obtain ⟨ti, ei, h1, h2, h3, h4, h5, h6, h7⟩ := slT_spec ht
  cases v <;> simp only [GS] at hb
  case sl i o n' c l =>
    obtain ⟨⟨rfl, _⟩, hl, hi, cs', t', m, h7, h8, h9⟩ := hb
    have hjs : j * sz + sz ≤ n' * sz := by
      have := Nat.mul_le_mul_right sz (show j + 1 ≤ n' from hj)
      rw [Nat.add_mul, Nat.one_mul] at this; exact this
    refine ⟨i, o + j * sz, ?_, by simp [ids], cs', t', m, h7, by omega, fun d hd => ?_⟩
    · rw [aIndexAt_sl (e := e) (sz := sz) (by simp [elemT, h1, h2, h3, h4]) (by omega) (by simpa using hj)]
      simp
    · have : ((cs'.drop o).take (n' * sz))[j * sz + d]? = cs[j * sz + d]? := by rw [h9]
      rw [List.getElem?_take, if_pos (by omega), List.getElem?_drop] at this
      rw [← this]
      congr 1
      omega
  case emp => omega
  case nils => omega
theorem index_load {t e by_ : Nat} (ht : slT E t e 1 by_ = true) (hat : atomT E e = true) {v : AV} {n : Nat} {cs : List AV} (hb : GS 1 h v n cs) {k : IntKind} {j : Nat} {x : AV} (hj : cs[j]? = some x) :
    ∃ p, aIndexAt E t v (.int k j) = some p ∧ aLoad E h e p = some x := by
  have hlt := (List.getElem?_eq_some_iff.1 hj).1
  have hl := hb.len
  obtain ⟨i, o, h1, h2, cs', t', m, h3, h4, h5⟩ := index_gen ht hb (k := k) (j := j) (by omega)
  refine ⟨_, h1, ?_⟩
  rw [aLoad_ptr, h3, loadAt_atom hat]
  have := h5 0 (by omega)
  simp only [Nat.add_zero, Nat.mul_one] at this
  rw [this]; exact hj
end

/-! ### What was read before an effect is held against it -/
def pendK (b : Bool) (s : Option AV) (v : AV) : Prop := b = true → s = some v
section
variable {E : Env} {h : AH}
@[go_sem] theorem wPend_none {chk : List Nat} : wPend E chk h [] = True := (rfl)
@[go_sem] theorem wPend_cons {chk : List Nat} {ix : Nat} {fr : Nat → AV} {op : Op} {v : AV} {ps : List Pend} : wPend E chk h (⟨ix, fr, op, v⟩ :: ps) = (pendK (chk.contains ix) (qStep E fr h op) v ∧ wPend E chk h ps) := (rfl)
@[go_sem] theorem pendK_false {s : Option AV} {v : AV} : pendK false s v = True := by simp [pendK]
@[go_sem] theorem pendK_true {v : AV} : pendK true (some v) v = True := by simp [pendK]
@[go_sem] theorem qs_load {fr : Nat → AV} {t : TypeId} {x : Operand} : qStep E fr h (.load t x) = aLoad E h t (ev fr x) := (rfl)
@[go_sem] theorem qs_convert {fr : Nat → AV} {s d : TypeId} {x : Operand} : qStep E fr h (.convert s d x) = aConvQ E h s d (ev fr x) := (rfl)
@[go_sem] theorem qs_builtin {fr : Nat → AV} {b : Builtin} {as : Array Operand} {ts : Array TypeId} : qStep E fr h (.call ⟨.builtin b, as, ts⟩) = qBuiltin E h b (as.toList.map (ev fr)) ts.toList := (rfl)
end
@[go_sem] theorem frame0_3 {a b c d : AV} {l : List AV} : frame0 (a :: b :: c :: d :: l) 3 = d := (rfl)
@[go_sem] theorem frame0_4 {a b c d e : AV} {l : List AV} : frame0 (a :: b :: c :: d :: e :: l) 4 = e := (rfl)
@[go_sem] theorem frame0_5 {a b c d e f : AV} {l : List AV} : frame0 (a :: b :: c :: d :: e :: f :: l) 5 = f := (rfl)
end Go.Proofs.Yteblojfcalgoeaa

/- The abstract machine: parts of slices; a byte stored into a slice of the code's own. Conditions: none. -/
set_option linter.unusedVariables false
set_option linter.unusedSimpArgs false
namespace Go.Proofs.Yteblojfcalgoeaa
open Go Go.RowKit

section
variable {E : Env} {h : AH}

theorem part_cells {sz n a b o : Nat} {cs cs' : List AV} (hab : a ≤ b) (hbn : b ≤ n) (h9 : (cs'.drop o).take (n * sz) = cs) : (cs'.drop (o + a * sz)).take ((b - a) * sz) = (cs.take (b * sz)).drop (a * sz) := by
  have h1 : b * sz ≤ n * sz := Nat.mul_le_mul_right sz hbn
  rw [← h9, List.take_take, Nat.min_eq_left h1, List.drop_take, List.drop_drop, Nat.sub_mul]

theorem GS.part {sz i o n c d : Nat} {l l' : Bool} {cs : List AV} (hb : GS sz h (.sl i o n c l) n cs) {a b : Nat} (hab : a ≤ b) (hbn : b ≤ n) (hd : l' = false → b - a ≤ d) : GS sz h (.sl i (o + a * sz) (b - a) d l') (b - a) ((cs.take (b * sz)).drop (a * sz)) := by
  obtain ⟨_, hl, hi, cs', t', m, h7, h8, h9⟩ := hb
  have h1 : b * sz ≤ n * sz := Nat.mul_le_mul_right sz hbn
  have h2 : a * sz ≤ b * sz := Nat.mul_le_mul_right sz hab
  have h3 : a * sz + (b - a) * sz = b * sz := by rw [← Nat.add_mul, show a + (b - a) = b by omega]
  refine ⟨⟨rfl, hd⟩, by rw [List.length_drop, List.length_take, hl]; omega, hi, cs', t', m, h7, by omega, part_cells hab hbn h9⟩

/-- A part of a slice; the bounds are told or not. -/
theorem slice_gen {t e sz by_ : Nat} (ht : slT E t e sz by_ = true) {v : AV} {n : Nat} {cs : List AV} (hb : GS sz h v n cs) {lo hi : Option AV} {a b : Nat} (hlo : lo = none ∧ a = 0 ∨ ∃ k, lo = some (.int k a)) (hhi : hi = none ∧ b = n ∨ ∃ k, hi = some (.int k b)) (hab : a ≤ b) (hbn : b ≤ n) :
    ∃ v', aSlice E t v lo hi none = some v' ∧ GS sz h v' (b - a) ((cs.take (b * sz)).drop (a * sz)) ∧ (∀ i ∈ ids v', i ∈ ids v) ∧ v'.atom = true := by
  obtain ⟨ti, ei, h1, h2, h3, h4, h5, h6, h7⟩ := slT_spec ht
  have bnd : ∀ (x : Option AV) (d top k : Nat), (x = none ∧ k = d ∨ ∃ q, x = some (.int q k)) → k ≤ top → aBnd x d top = some k := by
    intro x d top k hx hk
    rcases hx with ⟨rfl, rfl⟩ | ⟨q, rfl⟩
    · rfl
    · simp only [aBnd, asN_nat, Nat.ble_eq_true_of_le hk, cond_true]
  unfold aSlice
  cases v <;> simp only [GS] at hb <;> simp only [h1, h2, h3]
  case sl i o n' c l =>
    have hb0 := hb
    obtain ⟨⟨rfl, hc⟩, hl, hi', cs', t', m, h7, h8, h9⟩ := hb
    have hbG : GS sz h (.sl i o n' c l) n' cs := hb0
    cases l with
    | true =>
      simp only
      rw [bnd hi n' n' b hhi hbn]
      simp only
      rw [bnd lo 0 b a hlo hab]
      simp only [h3, h4]
      by_cases ha : a = 0
      · subst ha
        refine ⟨_, rfl, ?_, by simp [ids], rfl⟩
        have := hbG.part (d := 0) (l' := true) hab hbn (by simp)
        simpa using this
      · rw [show Nat.beq a 0 = false from beqF ha, cond_false]
        by_cases hal : a = n'
        · subst hal
          rw [show Nat.beq a a = true from by simp, cond_true]
          refine ⟨_, rfl, ?_, by simp [ids], rfl⟩
          have hba : b = a := by omega
          subst hba
          simp only [GS]
          simp
        · rw [show Nat.beq a n' = false from beqF hal, cond_false, show Nat.beq sz 0 = false from beqF (by omega), cond_false]
          refine ⟨_, rfl, ?_, by simp [ids], rfl⟩
          exact hbG.part (d := 0) (l' := true) hab hbn (by simp)
    | false =>
      have hc := hc rfl
      simp only [show aBnd none c c = some c from rfl, h3]
      rw [bnd hi n' c b hhi (by omega)]
      simp only
      rw [bnd lo 0 b a hlo hab]
      simp only [h4]
      refine ⟨_, rfl, ?_, by simp [ids], rfl⟩
      have hp := hbG.part (d := c - a) (l' := false) hab hbn (by omega)
      by_cases hca : c = a
      · have hab' : b = a := by omega
        subst hca hab'
        rw [show Nat.beq b b = true from by simp, cond_true]
        refine ⟨⟨by simp, fun _ => by omega⟩, by simp, hi', cs', t', m, h7, by simp; omega, by simp⟩
      · rw [show Nat.beq c a = false from beqF hca, cond_false]
        exact hp
  case emp =>
    obtain ⟨rfl, rfl⟩ := hb
    have : b = 0 := by simpa using hbn
    subst this
    have : a = 0 := by omega
    subst this
    rw [bnd hi 0 0 0 (by simpa using hhi) (Nat.le_refl _)]
    simp only
    rw [bnd lo 0 0 0 hlo (Nat.le_refl _)]
    exact ⟨_, rfl, ⟨rfl, by simp⟩, by simp [ids], rfl⟩
  case nils =>
    obtain ⟨rfl, rfl⟩ := hb
    have : b = 0 := by simpa using hbn
    subst this
    have : a = 0 := by omega
    subst this
    rw [bnd hi 0 0 0 (by simpa using hhi) (Nat.le_refl _)]
    simp only
    rw [bnd lo 0 0 0 hlo (Nat.le_refl _)]
    exact ⟨_, rfl, ⟨rfl, by simp⟩, by simp [ids], rfl⟩

/-- A cell of a slice of the code's own, of elements of one cell, is written. -/
theorem OwnA.put {t e by_ : Nat} (ht : slT E t e 1 by_ = true) {v : AV} {n : Nat} {cs : List AV} (ho : OwnA e 1 h v n cs) {k : IntKind} {j : Nat} (hj : j < n) {x : AV} (ha : x.atom = true) :
    ∃ p h', aIndexAt E t v (.int k j) = some p ∧ (atomT E e = true → aLoad E h e p = cs[j]?) ∧ storeV E h e p x = some (.val .bad h') ∧ OwnA e 1 h' v n (cs.set j x) ∧ Keep h h' (ids v) := by
  obtain ⟨ti, ei, h1, h2, h3, h4, h5, h6, h7⟩ := slT_spec ht
  rcases ho with ⟨rfl, rfl, rfl⟩ | ⟨hl, ha', i, hi, hh⟩
  · omega
  · have hsz : sizeT E e = some 1 := by simp [sizeT, h3, h4]
    have key : ∀ c (l : Bool) (m : Mode), v = .sl i 0 n c l → h.get i = .cells cs e m → m ≠ .ro → ∃ p h', aIndexAt E t v (.int k j) = some p ∧ (atomT E e = true → aLoad E h e p = cs[j]?) ∧ storeV E h e p x = some (.val .bad h') ∧ h' = h.set i (.cells (cs.set j x) e m) := by
      rintro c l m rfl hg hm
      refine ⟨.ptr i j, _, ?_, ?_, ?_, rfl⟩
      · rw [aIndexAt_sl (e := e) (sz := 1) (by simp [elemT, h1, h2, h3, h4]) (by omega) (by simpa using hj)]
        simp
      · intro hat; rw [aLoad_ptr, hg, loadAt_atom hat]
      · rw [storeV_ptr, hg, storeO_atom hsz ha hm (by omega), putO_some]
    have hall : (cs.set j x).all AV.atom = true := by
      rw [List.all_eq_true] at ha' ⊢
      intro y hy
      rcases List.mem_or_eq_of_mem_set hy with hy | rfl
      · exact ha' y hy
      · exact ha
    rcases hh with ⟨hv, hg⟩ | ⟨hv, hg⟩
    · obtain ⟨p, h', a1, a2, a3, rfl⟩ := key _ _ _ hv hg (by decide)
      subst hv
      exact ⟨p, _, a1, a2, a3, .inr ⟨by simpa using hl, hall, i, hi, .inl ⟨rfl, get_set_same⟩⟩, Keep.set h i _⟩
    · obtain ⟨p, h', a1, a2, a3, rfl⟩ := key _ _ _ hv hg (by decide)
      subst hv
      exact ⟨p, _, a1, a2, a3, .inr ⟨by simpa using hl, hall, i, hi, .inr ⟨rfl, get_set_same⟩⟩, Keep.set h i _⟩
end

/-- Two slices of bytes of the code's own, apart from each other and from what was there. -/
structure Two (e : TypeId) (h0 h : AH) (b d : AV) (bs ds : List UInt8) : Prop where
  ob : Own e h b bs
  od : Own e h d ds
  keep : Keep h0 h []
  bf : ∀ i ∈ ids b, h0.next ≤ i
  df : ∀ i ∈ ids d, h0.next ≤ i
  ne : ∀ i ∈ ids b, i ∉ ids d
theorem Keep.fresh {h0 h h1 : AH} {S : List Nat} (k : Keep h0 h []) (k1 : Keep h h1 S) (hS : ∀ i ∈ S, h0.next ≤ i) : Keep h0 h1 [] :=
  (k.trans k1).mono (fun j hj hlt => by have := hS j (by simpa using hj); omega)
theorem Two.same {e : TypeId} {h0 h h1 : AH} {b d : AV} {bs ds : List UInt8} (t : Two e h0 h b d bs ds) (k : Keep h h1 []) : Two e h0 h1 b d bs ds :=
  ⟨t.ob.keep k (by simp), t.od.keep k (by simp), (t.keep.trans k).mono (by simp), t.bf, t.df, t.ne⟩
theorem Two.putB {e : TypeId} {h0 h h1 : AH} {b d b' : AV} {bs ds bs' : List UInt8} (t : Two e h0 h b d bs ds) (ho : Own e h1 b' bs') (g : Grew h h1 .nils b') : Two e h0 h1 b' d bs' ds := by
  have k : Keep h h1 [] := g.keep
  have hf : ∀ i ∈ ids b', h.next ≤ i := fun i hi => by
    rcases g.fresh i hi with h2 | h2
    · simp [ids] at h2
    · exact h2
  exact ⟨ho, t.od.keep k (by simp), (t.keep.trans k).mono (by simp), fun i hi => Nat.le_trans t.keep.next (hf i hi), t.df, fun i hi hx => by have := t.od.lt i hx; have := hf i hi; omega⟩
theorem Two.putD {e : TypeId} {h0 h h1 : AH} {b d d' : AV} {bs ds ds' : List UInt8} (t : Two e h0 h b d bs ds) (ho : Own e h1 d' ds') (g : Grew h h1 d d') : Two e h0 h1 b d' bs ds' := by
  refine ⟨t.ob.keep g.keep t.ne, ho, t.keep.fresh g.keep t.df, t.bf, fun i hi => ?_, fun i hi hx => ?_⟩
  · rcases g.fresh i hi with h2 | h2
    · exact t.df i h2
    · have := t.keep.next; omega
  · rcases g.fresh i hx with h2 | h2
    · exact t.ne i hi h2
    · have := t.ob.lt i hi; omega
end Go.Proofs.Yteblojfcalgoeaa

/- The abstract machine: a body cut in two. Conditions: none. -/
set_option linter.unusedVariables false
namespace Go.Proofs.Yteblojfcalgoeaa
open Go Go.RowKit

/-- The first pieces of a sequence. -/
def headN : Nat → Code → Code
  | 0, _ => .skip
  | k + 1, .seq a b => .seq a (headN k b)
  | _ + 1, c => c
/-- What is behind them. -/
def dropN : Nat → Code → Code
  | 0, c => c
  | k + 1, .seq _ b => dropN k b
  | _ + 1, _ => .skip

section
variable {E : Env} {K : Caller} {m nt : Nat}
theorem SeqC_skip {Q : CR → Prop} : ∀ r, SeqC E K m .skip Q r → Q r
  | .go 0 fr h, hr => hr
  | .go (_ + 1) fr h, hr => hr
  | .pan v h, hr => hr
theorem wCode_cut : ∀ (k : Nat) (c : Code) (fr : Nat → AV) (h : AH) (Q : CR → Prop), wCode E K m (slim E nt (headN k c)) fr h (SeqC E K m (slim E nt (dropN k c)) Q) → wCode E K m (slim E nt c) fr h Q
  | 0, c, fr, h, Q, hw => hw
  | k + 1, c, fr, h, Q, hw => by
      by_cases hc : ∃ a b, c = .seq a b
      · obtain ⟨a, b, rfl⟩ := hc
        refine wCode_mono (slim E nt a) fr h _ _ (fun r hr => ?_) hw
        match r, hr with
        | .go 0 fr' h', hr => exact wCode_cut k b fr' h' Q hr
        | .go (_ + 1) _ _, hr => exact hr
        | .pan _ _, hr => exact hr
      · have h1 : headN (k + 1) c = c := by
          cases c <;> first | rfl | exact absurd ⟨_, _, rfl⟩ hc
        have h2 : dropN (k + 1) c = .skip := by
          cases c <;> first | rfl | exact absurd ⟨_, _, rfl⟩ hc
        rw [h1, h2] at hw
        exact wCode_mono _ fr h _ _ (fun r hr => SeqC_skip r hr) hw

/-- A body cut in two: what holds between. -/
theorem wCode_mid (k : Nat) (c : Code) {fr : Nat → AV} {h : AH} {Q : CR → Prop} (P : (Nat → AV) → AH → Prop)
    (h1 : wCode E K m (slim E nt (headN k c)) fr h (fun r => ∃ fr' h', r = .go 0 fr' h' ∧ P fr' h'))
    (h2 : ∀ fr' h', P fr' h' → wCode E K m (slim E nt (dropN k c)) fr' h' Q) : wCode E K m (slim E nt c) fr h Q :=
  wCode_cut k c fr h Q (wCode_mono _ fr h _ _ (fun r hr => by
    obtain ⟨fr', h', rfl, hp⟩ := hr
    exact h2 fr' h' hp) h1)
theorem wLoop_cut {b : LC} {n : Nat} {fr : Nat → AV} {h : AH} {Q Q' : CR → Prop} (hw : wLoop (wCode E K m b) n fr h Q) (hq : ∀ r, Q r → Q' r) : wLoop (wCode E K m b) n fr h Q' :=
  wLoop_mono (fun fr h Q Q' hq hw => wCode_mono b fr h Q Q' hq hw) hq n fr h hw
end
theorem aResults_three {E : Env} {F : Func} {fr : Nat → AV} {h : AH} {t u v : Tmp} (hr : F.results = #[.tmp t, .tmp u, .tmp v]) : aResults E F fr h = some (.tup [fr t, fr u, fr v]) := by simp [aResults, hr, aResL, aRes1]
theorem aResults_cellL {E : Env} {F : Func} {fr : Nat → AV} {h : AH} {a : Tmp} {t : TypeId} (hr : F.results = #[.cell a t]) : aResults E F fr h = aLoad E h t (fr a) := by
  simp only [aResults, hr, aResL, aRes1]
  cases aLoad E h t (fr a) <;> rfl
end Go.Proofs.Yteblojfcalgoeaa
