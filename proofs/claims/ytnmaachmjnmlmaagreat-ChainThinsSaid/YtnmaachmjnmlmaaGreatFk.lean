/-
  What must hold ahead of code, so that it runs to its end with something behind it: without fuel.
-/
import Derived.Test.YtnmaachmjnmlmaaGreatFa
set_option linter.unusedVariables false
set_option linter.unusedSimpArgs false
set_option linter.unusedSectionVars false
namespace Go.Ev

variable (prog : Nat → Option CDecl)

/-- A call answers. -/
def Ret (f : Value) (args : List Value) (s : St) (v : Value) (s' : St) : Prop := ∃ N, ∀ n, N ≤ n → callV prog n f args s = some (v, s')
def WCall (f : Value) (args : List Value) (s : St) (Q : Value → St → Prop) : Prop := ∃ v s', Ret prog f args s v s' ∧ Q v s'

/-- Code runs to its end. -/
def WRun (c : CCode) (F : Fr) (s : St) (Q : Ex → Fr → St → Prop) : Prop := ∃ e F' s', (∃ N, ∀ n, N ≤ n → evC (callV prog n) n c F s = some (e, F', s')) ∧ Q e F' s'
def WLoop (L : List Nat) (b : CCode) (F : Fr) (s : St) (Q : Ex → Fr → St → Prop) : Prop :=
  ∃ e F' s', (∃ N, ∀ n, N ≤ n → ∀ m, N ≤ m → loopC L (evC (callV prog n) n b) m F s = some (e, F', s')) ∧ Q e F' s'

def wpB (v : Value) (X Y : Prop) : Prop := ∃ b : Bool, v = .bool b ∧ if b = true then X else Y
def wpG (g : Option Bool) (X Y : Prop) : Prop := ∃ b : Bool, g = some b ∧ if b = true then X else Y

def wpOps (base : Nat) : List CO → Fr → St → List St → Pend → (Fr → St → Prop) → Prop
  | [], F, s, _, _, Q => Q F s
  | ⟨d, .p x, none, none⟩ :: os, F, s, prev, pend, Q => ∃ v, evP s.get F x = some v ∧ wpOps base os (putO F d v) s prev pend Q
  | ⟨d, .p x, some g, none⟩ :: os, F, s, prev, pend, Q =>
    wpG (opGuard (F g.1) g.2) (∃ v, evP s.get F x = some v ∧ wpOps base os (putO F d v) s prev pend Q) (wpOps base os (putO F d undf) s prev pend Q)
  | ⟨d, .p x, none, some (m, k)⟩ :: os, F, s, prev, pend, Q => ∃ v p n vs, evP s.get F x = some v ∧ loadOf F x = some (p, n) ∧ loadV s.get p n = some vs ∧ prevOk m prev ⟨p, n, vs⟩ = true ∧
    wpOps base os (putO F d v) s prev (bif Nat.beq k 0 then pend else (k, some ⟨p, n, vs⟩) :: pend) Q
  | ⟨d, .a r x, none, none⟩ :: os, F, s, prev, pend, Q => ∃ v ob, evA F (base + r) x = some (v, ob) ∧ wpOps base os (putO F d v) (s.put (base + r) ob) prev pend Q
  | ⟨d, .e (.call f args), none, none⟩ :: os, F, s, prev, pend, Q =>
    WCall prog (f.ev F) (evArgs F args) s fun v s' => pendOk s' pend = true ∧ wpOps base os (putO F d v) s' (s :: prev) (passed pend) Q
  | ⟨d, .e (.call f args), some g, none⟩ :: os, F, s, prev, pend, Q =>
    wpG (opGuard (F g.1) g.2) (WCall prog (f.ev F) (evArgs F args) s fun v s' => pendOk s' pend = true ∧ wpOps base os (putO F d v) s' (s :: prev) (passed pend) Q)
      (pendOk s pend = true ∧ wpOps base os (putO F d undf) s (s :: prev) (passed pend) Q)
  | ⟨d, .e x, none, none⟩ :: os, F, s, prev, pend, Q => ∃ v s', evE (fun _ _ _ => none) F s x = some (v, s') ∧ pendOk s' pend = true ∧ wpOps base os (putO F d v) s' (s :: prev) (passed pend) Q
  | ⟨d, .e x, some g, none⟩ :: os, F, s, prev, pend, Q =>
    wpG (opGuard (F g.1) g.2) (∃ v s', evE (fun _ _ _ => none) F s x = some (v, s') ∧ pendOk s' pend = true ∧ wpOps base os (putO F d v) s' (s :: prev) (passed pend) Q)
      (pendOk s pend = true ∧ wpOps base os (putO F d undf) s (s :: prev) (passed pend) Q)
  | _ :: _, _, _, _, _, _ => False

def wpSeq (X : Fr → St → Prop) (Q : Ex → Fr → St → Prop) : Ex → Fr → St → Prop
  | .normal, F, s => X F s
  | e, F, s => Q e F s
def wpBlk (id : Nat) (Q : Ex → Fr → St → Prop) : Ex → Fr → St → Prop
  | .exit i, F, s => if i = id then Q .normal F s else Q (.exit i) F s
  | e, F, s => Q e F s

def wp : CCode → Fr → St → (Ex → Fr → St → Prop) → Prop
  | .skip, F, s, Q => Q .normal F s
  | .region na L ops, F, s, Q => wpOps prog s.next ops F (s.bump na) [] [] fun F' s' => Q .normal (restrict L F') s'
  | .seq a b, F, s, Q => wp a F s (wpSeq (fun F s => wp b F s Q) Q)
  | .cond c x y, F, s, Q => wpB (c.ev F) (wp x F s Q) (wp y F s Q)
  | .block id b, F, s, Q => wp b F s (wpBlk id Q)
  | .loop L b, F, s, Q => WLoop prog L b F s Q
  | .rangeFunc f ps as b, F, s, Q =>
    WCall prog (f.ev F) [.func (.yield s.next) ⟨[]⟩ ⟨[]⟩] ((s.bump 1).put s.next (.loop { F, params := ps, assign := as, body := b, state := .ready, pending := none })) fun _ s2 =>
      ∃ r, s2.get s.next = some (.loop r) ∧ r.state ≠ .busy ∧ Q (r.pending.getD .normal) F (s2.put s.next .dead)
  | .exit id, F, s, Q => Q (.exit id) F s
  | .scope b, F, s, Q => wp b F s Q
  | .ret, F, s, Q => Q .ret F s

variable {prog}

theorem wpOps_sound {base : Nat} : ∀ (ops : List CO) {F : Fr} {s : St} {prev : List St} {pend : Pend} {Q : Fr → St → Prop}, wpOps prog base ops F s prev pend Q →
    ∃ F' s', (∃ N, ∀ n, N ≤ n → ∀ K : Fr → St → Out, evOps (callV prog n) base K ops F s prev pend = K F' s') ∧ Q F' s'
  | [], F, s, prev, pend, Q, h => ⟨F, s, ⟨0, fun n _ K => rfl⟩, h⟩
  | ⟨d, op, g, chk⟩ :: os, F, s, prev, pend, Q, h => by
    cases op with
    | p x =>
      cases chk with
      | none =>
        cases g with
        | none =>
          simp only [wpOps] at h
          obtain ⟨v, h1, h2⟩ := h
          obtain ⟨F', s', ⟨N, hN⟩, hq⟩ := wpOps_sound os h2
          refine ⟨F', s', ⟨N, fun n hn K => ?_⟩, hq⟩
          rw [← hN n hn K]
          cases x <;> first
            | (simp only [evP, Option.some.injEq] at h1; subst h1; rfl)
            | simp [evOps, bindV, gd, guardOk, h1, fVal_eq]
        | some g =>
          simp only [wpOps] at h
          obtain ⟨b, hb, h⟩ := h
          cases b with
          | true =>
            simp only [if_true] at h
            obtain ⟨v, h1, h2⟩ := h
            obtain ⟨F', s', ⟨N, hN⟩, hq⟩ := wpOps_sound os h2
            refine ⟨F', s', ⟨N, fun n hn K => ?_⟩, hq⟩
            rw [← hN n hn K]
            obtain ⟨t, b⟩ := g
            cases x <;> simp [evOps, bindV, gd, guardOk, hb, h1, fVal_eq]
          | false =>
            simp only [Bool.false_eq_true, if_false] at h
            obtain ⟨F', s', ⟨N, hN⟩, hq⟩ := wpOps_sound os h
            refine ⟨F', s', ⟨N, fun n hn K => ?_⟩, hq⟩
            rw [← hN n hn K]
            obtain ⟨t, b⟩ := g
            cases x <;> simp [evOps, bindV, gd, guardOk, hb, fVal_eq]
      | some mk =>
        obtain ⟨m, k⟩ := mk
        cases g with
        | some _ => cases h
        | none =>
          simp only [wpOps] at h
          obtain ⟨v, p, n0, vs, h1, h2, h3, h4, h5⟩ := h
          obtain ⟨F', s', ⟨N, hN⟩, hq⟩ := wpOps_sound os h5
          refine ⟨F', s', ⟨N, fun n hn K => ?_⟩, hq⟩
          rw [← hN n hn K]
          cases x <;> simp [evOps, bindV, gd, guardOk, h1, fVal_eq, chkL, check, h3, h4] <;> (simp only [loadOf] at h2; first | (cases h2; done) | (simp only [Option.some.injEq, Prod.mk.injEq] at h2; obtain ⟨rfl, rfl⟩ := h2; simp [loadOf, h3, h4]))
    | a r x =>
      cases chk with
      | some _ => cases g <;> cases h
      | none =>
        cases g with
        | some _ => cases h
        | none =>
          simp only [wpOps] at h
          obtain ⟨v, ob, h1, h2⟩ := h
          obtain ⟨F', s', ⟨N, hN⟩, hq⟩ := wpOps_sound os h2
          refine ⟨F', s', ⟨N, fun n hn K => ?_⟩, hq⟩
          rw [← hN n hn K]
          simp [evOps, fNat_eq, bindA, h1, fVal_eq, fObj_eq, putK_eq]
    | e x =>
      have hbind : ∀ (v : Value) (s1 : St) (k : Value → St → Out), bindE (some (v, s1)) k = k v s1 := by
        rintro v ⟨n, wm, hp⟩ k
        cases hp <;> simp [bindE, fVal_eq]
      cases chk with
      | some _ => cases g <;> cases x <;> cases h
      | none =>
        have plain : ∀ (hx : ∀ call, evE call F s x = evE (fun _ _ _ => none) F s x), (∃ v s', evE (fun _ _ _ => none) F s x = some (v, s') ∧ pendOk s' pend = true ∧ wpOps prog base os (putO F d v) s' (s :: prev) (passed pend) Q) →
            ∃ F' s', (∃ N, ∀ n, N ≤ n → ∀ K : Fr → St → Out, bindE (evE (callV prog n) F s x) (fun v s' => check (pendOk s' pend) (evOps (callV prog n) base K os (putO F d v) s' (s :: prev) (passed pend))) = K F' s') ∧ Q F' s' := by
          rintro hx ⟨v, s1, h1, h2, h3⟩
          obtain ⟨F', s', ⟨N, hN⟩, hq⟩ := wpOps_sound os h3
          refine ⟨F', s', ⟨N, fun n hn K => ?_⟩, hq⟩
          rw [hx, h1, hbind, h2, ← hN n hn K]
          rfl
        have callc : ∀ (f : COpd) (args : List COpd), x = .call f args → (WCall prog (f.ev F) (evArgs F args) s fun v s' => pendOk s' pend = true ∧ wpOps prog base os (putO F d v) s' (s :: prev) (passed pend) Q) →
            ∃ F' s', (∃ N, ∀ n, N ≤ n → ∀ K : Fr → St → Out, bindE (evE (callV prog n) F s x) (fun v s' => check (pendOk s' pend) (evOps (callV prog n) base K os (putO F d v) s' (s :: prev) (passed pend))) = K F' s') ∧ Q F' s' := by
          rintro f args rfl ⟨v, s1, ⟨N1, hN1⟩, h2, h3⟩
          obtain ⟨F', s', ⟨N, hN⟩, hq⟩ := wpOps_sound os h3
          refine ⟨F', s', ⟨max N N1, fun n hn K => ?_⟩, hq⟩
          have e1 : evE (callV prog n) F s (.call f args) = some (v, s1) := hN1 n (by omega)
          rw [e1, hbind, h2, ← hN n (by omega) K]
          rfl
        have skip : pendOk s pend = true ∧ wpOps prog base os (putO F d undf) s (s :: prev) (passed pend) Q →
            ∃ F' s', (∃ N, ∀ n, N ≤ n → ∀ K : Fr → St → Out, bindE (some (undf, s)) (fun v s' => check (pendOk s' pend) (evOps (callV prog n) base K os (putO F d v) s' (s :: prev) (passed pend))) = K F' s') ∧ Q F' s' := by
          rintro ⟨h2, h3⟩
          obtain ⟨F', s', ⟨N, hN⟩, hq⟩ := wpOps_sound os h3
          refine ⟨F', s', ⟨N, fun n hn K => ?_⟩, hq⟩
          rw [hbind, h2, ← hN n (by omega) K]
          rfl
        cases g with
        | none =>
          suffices hs : ∃ F' s', (∃ N, ∀ n, N ≤ n → ∀ K : Fr → St → Out, bindE (evE (callV prog n) F s x) (fun v s' => check (pendOk s' pend) (evOps (callV prog n) base K os (putO F d v) s' (s :: prev) (passed pend))) = K F' s') ∧ Q F' s' by
            obtain ⟨F', s', ⟨N, hN⟩, hq⟩ := hs
            refine ⟨F', s', ⟨N, fun n hn K => ?_⟩, hq⟩
            rw [← hN n hn K]
            cases x <;> rfl
          cases x
          case call f args => exact callc f args rfl (by simpa only [wpOps] using h)
          all_goals exact plain (fun _ => rfl) (by simpa only [wpOps] using h)
        | some g =>
          obtain ⟨t, b⟩ := g
          have hg : ∃ X : Prop, ∃ bb : Bool, opGuard (F t) b = some bb ∧ (if bb = true then X else (pendOk s pend = true ∧ wpOps prog base os (putO F d undf) s (s :: prev) (passed pend) Q)) ∧
              (X → ∃ F' s', (∃ N, ∀ n, N ≤ n → ∀ K : Fr → St → Out, bindE (evE (callV prog n) F s x) (fun v s' => check (pendOk s' pend) (evOps (callV prog n) base K os (putO F d v) s' (s :: prev) (passed pend))) = K F' s') ∧ Q F' s') := by
            cases x
            case call f args =>
              simp only [wpOps] at h
              obtain ⟨bb, h1, h2⟩ := h
              exact ⟨_, bb, h1, h2, callc f args rfl⟩
            all_goals
              simp only [wpOps] at h
              obtain ⟨bb, h1, h2⟩ := h
              exact ⟨_, bb, h1, h2, plain (fun _ => rfl)⟩
          obtain ⟨X, bb, h1, h2, h3⟩ := hg
          cases bb with
          | true =>
            obtain ⟨F', s', ⟨N, hN⟩, hq⟩ := h3 (by simpa using h2)
            refine ⟨F', s', ⟨N, fun n hn K => ?_⟩, hq⟩
            rw [← hN n hn K]
            cases x <;> simp [evOps, gd, guardOk, h1]
          | false =>
            obtain ⟨F', s', ⟨N, hN⟩, hq⟩ := skip (by simpa using h2)
            refine ⟨F', s', ⟨N, fun n hn K => ?_⟩, hq⟩
            rw [← hN n hn K]
            cases x <;> simp [evOps, gd, guardOk, h1]

theorem wp_sound : ∀ (c : CCode) {F : Fr} {s : St} {Q : Ex → Fr → St → Prop}, wp prog c F s Q → WRun prog c F s Q
  | .skip, F, s, Q, h => ⟨.normal, F, s, ⟨0, fun n _ => rfl⟩, h⟩
  | .region na L ops, F, s, Q, h => by
    obtain ⟨F', s', ⟨N, hN⟩, hq⟩ := wpOps_sound ops h
    refine ⟨.normal, restrict L F', s', ⟨N, fun n hn => ?_⟩, hq⟩
    show evRegion _ _ _ _ _ _ = _
    unfold evRegion
    rw [bumpK_eq, hN n hn]
  | .seq a b, F, s, Q, h => by
    obtain ⟨e, F1, s1, ⟨N, hN⟩, hq⟩ := wp_sound a h
    cases e with
    | normal =>
      obtain ⟨e2, F2, s2, ⟨N2, hN2⟩, hq2⟩ := wp_sound b hq
      refine ⟨e2, F2, s2, ⟨max N N2, fun n hn => ?_⟩, hq2⟩
      show seqC _ _ _ _ = _
      unfold seqC
      rw [hN n (by omega)]
      exact hN2 n (by omega)
    | exit i =>
      refine ⟨.exit i, F1, s1, ⟨N, fun n hn => ?_⟩, hq⟩
      show seqC _ _ _ _ = _
      unfold seqC
      rw [hN n hn]
    | ret =>
      refine ⟨.ret, F1, s1, ⟨N, fun n hn => ?_⟩, hq⟩
      show seqC _ _ _ _ = _
      unfold seqC
      rw [hN n hn]
  | .cond c x y, F, s, Q, h => by
    obtain ⟨b, hb, h⟩ := h
    cases b with
    | true =>
      obtain ⟨e, F1, s1, ⟨N, hN⟩, hq⟩ := wp_sound x (by simpa using h)
      refine ⟨e, F1, s1, ⟨N, fun n hn => ?_⟩, hq⟩
      show condC _ _ _ _ _ = _
      rw [hb]
      exact hN n hn
    | false =>
      obtain ⟨e, F1, s1, ⟨N, hN⟩, hq⟩ := wp_sound y (by simpa using h)
      refine ⟨e, F1, s1, ⟨N, fun n hn => ?_⟩, hq⟩
      show condC _ _ _ _ _ = _
      rw [hb]
      exact hN n hn
  | .block id b, F, s, Q, h => by
    obtain ⟨e, F1, s1, ⟨N, hN⟩, hq⟩ := wp_sound b h
    cases e with
    | normal =>
      refine ⟨.normal, F1, s1, ⟨N, fun n hn => ?_⟩, hq⟩
      show blockC _ _ _ _ = _
      unfold blockC
      rw [hN n hn]
    | ret =>
      refine ⟨.ret, F1, s1, ⟨N, fun n hn => ?_⟩, hq⟩
      show blockC _ _ _ _ = _
      unfold blockC
      rw [hN n hn]
    | exit i =>
      simp only [wpBlk] at hq
      by_cases hi : i = id
      · rw [if_pos hi] at hq
        refine ⟨.normal, F1, s1, ⟨N, fun n hn => ?_⟩, hq⟩
        show blockC _ _ _ _ = _
        unfold blockC
        rw [hN n hn]
        subst hi
        simp
      · rw [if_neg hi] at hq
        refine ⟨.exit i, F1, s1, ⟨N, fun n hn => ?_⟩, hq⟩
        show blockC _ _ _ _ = _
        unfold blockC
        rw [hN n hn]
        have : Nat.beq i id = false := by
          cases hb : Nat.beq i id with
          | false => rfl
          | true => exact absurd (Nat.eq_of_beq_eq_true hb) hi
        simp only [this, cond_false]
  | .loop L b, F, s, Q, h => by
    obtain ⟨e, F1, s1, ⟨N, hN⟩, hq⟩ := h
    exact ⟨e, F1, s1, ⟨N, fun n hn => hN n hn n hn⟩, hq⟩
  | .rangeFunc f ps as b, F, s, Q, h => by
    obtain ⟨v, s2, ⟨N, hN⟩, r, h1, h2, h3⟩ := h
    refine ⟨_, F, _, ⟨N, fun n hn => ?_⟩, h3⟩
    show rangeC _ _ _ _ _ _ _ = _
    unfold rangeC
    simp only [bumpK_eq, putK_eq]
    have := hN n hn
    rw [this]
    simp only [h1]
    obtain ⟨F0, ps0, as0, b0, st, pd⟩ := r
    cases st with
    | busy => exact absurd rfl h2
    | ready => cases pd <;> rfl
    | done => cases pd <;> rfl
    | exhausted => cases pd <;> rfl
  | .exit id, F, s, Q, h => ⟨.exit id, F, s, ⟨0, fun n _ => rfl⟩, h⟩
  | .scope b, F, s, Q, h => wp_sound b h
  | .ret, F, s, Q, h => ⟨.ret, F, s, ⟨0, fun n _ => rfl⟩, h⟩

/-- A round of a loop. -/
theorem WLoop.step {L : List Nat} {b : CCode} {F : Fr} {s : St} {Q : Ex → Fr → St → Prop} (h : wp prog b (restrict L F) s (wpSeq (fun F s => WLoop prog L b F s Q) Q)) : WLoop prog L b F s Q := by
  obtain ⟨e, F1, s1, ⟨N, hN⟩, hq⟩ := wp_sound b h
  cases e with
  | normal =>
    obtain ⟨e2, F2, s2, ⟨N2, hN2⟩, hq2⟩ := hq
    refine ⟨e2, F2, s2, ⟨max N N2 + 1, fun n hn m hm => ?_⟩, hq2⟩
    obtain ⟨m, rfl⟩ : ∃ m', m = m' + 1 := ⟨m - 1, by omega⟩
    simp only [loopC]
    rw [hN n (by omega)]
    exact hN2 n (by omega) m (by omega)
  | exit i =>
    refine ⟨.exit i, F1, s1, ⟨N + 1, fun n hn m hm => ?_⟩, hq⟩
    obtain ⟨m, rfl⟩ : ∃ m', m = m' + 1 := ⟨m - 1, by omega⟩
    simp only [loopC]
    rw [hN n (by omega)]
  | ret =>
    refine ⟨.ret, F1, s1, ⟨N + 1, fun n hn m hm => ?_⟩, hq⟩
    obtain ⟨m, rfl⟩ : ∃ m', m = m' + 1 := ⟨m - 1, by omega⟩
    simp only [loopC]
    rw [hN n (by omega)]

theorem WCall.of {f : Value} {args : List Value} {s : St} {v : Value} {s' : St} {Q : Value → St → Prop} (h : Ret prog f args s v s') (hq : Q v s') : WCall prog f args s Q := ⟨v, s', h, hq⟩
theorem WCall.mono {f : Value} {args : List Value} {s : St} {Q Q' : Value → St → Prop} (h : WCall prog f args s Q) (hq : ∀ v s', Q v s' → Q' v s') : WCall prog f args s Q' :=
  let ⟨v, s', h1, h2⟩ := h; ⟨v, s', h1, hq v s' h2⟩
theorem WLoop.mono {L : List Nat} {b : CCode} {F : Fr} {s : St} {Q Q' : Ex → Fr → St → Prop} (h : WLoop prog L b F s Q) (hq : ∀ e F s, Q e F s → Q' e F s) : WLoop prog L b F s Q' :=
  let ⟨e, F1, s1, h1, h2⟩ := h; ⟨e, F1, s1, h1, hq e F1 s1 h2⟩

/-- What is asked at a function's end. -/
def wpEnd (res : List CRes) (Q : Value → St → Prop) : Ex → Fr → St → Prop
  | .normal, F, s => ∃ vs, resVals F s res = some vs ∧ Q (resVal vs) s
  | .ret, F, s => ∃ vs, resVals F s res = some vs ∧ Q (resVal vs) s
  | .exit _, _, _ => False

theorem finish_of {res : List CRes} {c : CCode} {F : Fr} {s : St} {Q : Value → St → Prop} (h : wp prog c F s (wpEnd res Q)) :
    ∃ v s', (∃ N, ∀ n, N ≤ n → finish res (evC (callV prog n) n c F s) = some (v, s')) ∧ Q v s' := by
  obtain ⟨e, F1, s1, ⟨N, hN⟩, hq⟩ := wp_sound c h
  cases e with
  | exit i => exact hq.elim
  | normal =>
    obtain ⟨vs, h1, h2⟩ := hq
    refine ⟨_, s1, ⟨N, fun n hn => ?_⟩, h2⟩
    rw [hN n hn]
    simp [finish, h1, fVal_eq]
  | ret =>
    obtain ⟨vs, h1, h2⟩ := hq
    refine ⟨_, s1, ⟨N, fun n hn => ?_⟩, h2⟩
    rw [hN n hn]
    simp [finish, h1, fVal_eq]

/-- A function that may change memory. -/
theorem wcall_fn {fid : Nat} {cf : CFunc} {cap args : List Value} {s : St} {Q : Value → St → Prop} (hp : prog fid = some (.fn cf)) (hpure : cf.pure = false) (hl : (args ++ cap).length ≤ cf.ntmps)
    (h : wp prog cf.body (argFr (args ++ cap) 0) s (wpEnd cf.results Q)) : WCall prog (.func (.func fid) ⟨[]⟩ ⟨cap⟩) args s Q := by
  obtain ⟨v, s', ⟨N, hN⟩, hq⟩ := finish_of h
  refine ⟨v, s', ⟨N + 1, fun n hn => ?_⟩, hq⟩
  obtain ⟨n, rfl⟩ : ∃ m, n = m + 1 := ⟨n - 1, by omega⟩
  simp only [callV, hp, runFn, hpure, cond_false, check, Nat.ble_eq_true_of_le hl, cond_true]
  exact hN n (by omega)

/-- A function that leaves memory as it was. -/
theorem wcall_pure {fid : Nat} {cf : CFunc} {cap args : List Value} {s : St} {Q : Value → St → Prop} (hp : prog fid = some (.fn cf)) (hpure : cf.pure = true) (hl : (args ++ cap).length ≤ cf.ntmps)
    (h : wp prog cf.body (argFr (args ++ cap) 0) ⟨s.next, s.next, s.heap⟩ (wpEnd cf.results fun v s' => ∃ v', settle s'.get s.next 8 v = some v' ∧ Q v' s)) :
    WCall prog (.func (.func fid) ⟨[]⟩ ⟨cap⟩) args s Q := by
  obtain ⟨v, s', ⟨N, hN⟩, v', hs, hq⟩ := finish_of h
  refine ⟨v', s, ⟨N + 1, fun n hn => ?_⟩, hq⟩
  obtain ⟨n, rfl⟩ : ∃ m, n = m + 1 := ⟨n - 1, by omega⟩
  simp only [callV, hp, runFn, hpure, cond_true, check, Nat.ble_eq_true_of_le hl]
  rw [hN n (by omega)]
  simp [pureEnd, hs, fVal_eq]

theorem wcall_ext {fid : Nat} {sub : Bool} {cap args : List Value} {s : St} {Q : Value → St → Prop} {v : Value} (hp : prog fid = some (bif sub then .sub64 else .add64)) (h : ext sub (args ++ cap) = some v) (hq : Q v s) :
    WCall prog (.func (.func fid) ⟨[]⟩ ⟨cap⟩) args s Q := by
  refine ⟨v, s, ⟨1, fun n hn => ?_⟩, hq⟩
  obtain ⟨n, rfl⟩ : ∃ m, n = m + 1 := ⟨n - 1, by omega⟩
  cases sub <;> simp only [cond_true, cond_false] at hp <;> simp [callV, hp, h, fVal_eq]

/-- A round of a range over a function. -/
theorem wcall_yield {l : Nat} {args : List Value} {s : St} {r : ILoop} {Q : Value → St → Prop} (hl : s.get l = some (.loop r)) (hst : r.state = .ready) (hwm : s.wm ≤ l) (hlen : args.length = r.params.length)
    (h : wp prog r.assign (updMany r.F r.params args) s fun e F1 s1 => e = .normal ∧ ∃ r1, s1.get l = some (.loop r1) ∧ r1.state = .ready ∧
      wp prog r.body F1 (s1.put l (.loop { r1 with state := .busy })) fun e _ s3 => ∃ r3, s3.get l = some (.loop r3) ∧
        match e with
        | .normal => Q (.bool true) (s3.put l (.loop { r3 with state := .ready, pending := none }))
        | e => Q (.bool false) (s3.put l (.loop { r3 with state := .done, pending := some e }))) :
    WCall prog (.func (.yield l) ⟨[]⟩ ⟨[]⟩) args s Q := by
  obtain ⟨e1, F1, s1, ⟨N1, hN1⟩, rfl, r1, h1, h2, h3⟩ := wp_sound _ h
  obtain ⟨e3, F3, s3, ⟨N3, hN3⟩, r3, h4, h5⟩ := wp_sound _ h3
  have hcheck : (Nat.ble s.wm l && Nat.beq args.length r.params.length) = true := by
    rw [Nat.ble_eq_true_of_le hwm, hlen, Nat.beq_refl]; rfl
  have key : ∃ v s4, endRound s3 l e3 = some (v, s4) ∧ Q v s4 := by
    cases e3 with
    | normal => exact ⟨_, _, by simp [endRound, h4, putK_eq], h5⟩
    | exit i => exact ⟨_, _, by simp [endRound, h4, putK_eq], h5⟩
    | ret => exact ⟨_, _, by simp [endRound, h4, putK_eq], h5⟩
  obtain ⟨v, s4, hk, hq⟩ := key
  refine ⟨v, s4, ⟨max N1 N3 + 1, fun n hn => ?_⟩, hq⟩
  obtain ⟨n, rfl⟩ : ∃ m, n = m + 1 := ⟨n - 1, by omega⟩
  simp only [callV, runRound, hl, hst, hcheck, check, cond_true]
  rw [hN1 n (by omega)]
  simp only [h1, h2, putK_eq]
  rw [hN3 n (by omega)]
  exact hk

end Go.Ev

