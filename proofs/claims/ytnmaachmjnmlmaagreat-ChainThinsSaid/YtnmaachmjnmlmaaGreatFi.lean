/-
  A region in any order: what a reading operation finds; guards; the machine's steps.

  A region, in whatever order.
-/
import Derived.Test.YtnmaachmjnmlmaaGreatFh
import Derived.AtR
set_option linter.unusedVariables false
set_option linter.unusedSimpArgs false
set_option linter.unusedSectionVars false
namespace Go.Ev

theorem vsameA_eq {a b : Value} (h : vsameA a b = true) : a = b := by
  unfold vsameA at h
  split at h <;> simp_all
theorem vsamesF_eq {p : Value → Value → Bool} (hp : ∀ {a b : Value}, p a b = true → a = b) : ∀ {xs ys : List Value}, vsamesF p xs ys = true → xs = ys
  | [], [], _ => rfl
  | [], _ :: _, h => by simp [vsamesF] at h
  | _ :: _, [], h => by simp [vsamesF] at h
  | x :: xs, y :: ys, h => by
    simp only [vsamesF, Bool.and_eq_true] at h
    rw [hp h.1, vsamesF_eq hp h.2]
theorem vsameF_eq : ∀ (f : Nat) {a b : Value}, vsameF f a b = true → a = b
  | 0, _, _, h => vsameA_eq h
  | f + 1, a, b, h => by
    unfold vsameF at h
    split at h
    · simp only [Bool.and_eq_true] at h
      rw [Nat.eq_of_beq_eq_true h.1, vsamesF_eq (vsameF_eq f) h.2]
    · simp only [Bool.and_eq_true] at h
      rw [Nat.eq_of_beq_eq_true h.1, vsamesF_eq (vsameF_eq f) h.2]
    · rw [vsamesF_eq (vsameF_eq f) h]
    · exact vsameA_eq h
theorem vsames1_eq {xs ys : List Value} (h : vsames1 xs ys = true) : xs = ys := vsamesF_eq (vsameF_eq 6) h
theorem sameLoad_eq {s : St} {p : Value} {n : Nat} {vs : List Value} (h : sameLoad s ⟨p, n, vs⟩ = true) : loadV s.get p n = some vs := by
  unfold sameLoad at h
  dsimp only at h
  split at h
  · rename_i vs' hl
    rw [hl, vsames1_eq h]
  · cases h

section
variable {P : Program} {φ : Emb} {g g' : Get} {F : Fr} {ρ : Operand → Value}

theorem loadV_mono {p q : Value} {n : Nat} {vs : List Value} (hp : V φ p q) (hg : ∀ i o, φ.blk i ≠ none → g i = some o → g' i = some o) (h : loadV g p n = some vs) : loadV g' p n = some vs := by
  unfold loadV at h ⊢
  split at h
  · rename_i b o
    cases hp with
    | ptr e =>
      have hb : φ.blk b ≠ none := by rw [e]; simp
      split at h
      · rename_i ro c hc
        rw [hg b _ hb hc]
        exact h
      · cases h
  · exact h
  · cases h

theorem mapOf_mono {m m' : Value} {es : List (Value × Value)} (hm : V φ m m') (hg : ∀ i o, φ.blk i ≠ none → g i = some o → g' i = some o) (h : mapOf g m = some es) : mapOf g' m = some es := by
  unfold mapOf at h ⊢
  split at h
  · exact h
  · rename_i b
    cases hm with
    | map e =>
      have hb : φ.blk b ≠ none := by rw [e]; simp
      split at h
      · rename_i es' hc
        rw [hg b _ hb hc]
        exact h
      · cases h
  · cases h

/-- A reading operation finds in more what it finds in less. -/
theorem evP_mono {o : Op} {x : POp} {v : Value} (hc : pC P o x = true) (hev : EvR φ F ρ o.operands.toList) (hl : isLoad (.p x) = true ∨ isRead (.p x) = true)
    (hg : ∀ i ob, φ.blk i ≠ none → g i = some ob → g' i = some ob) (h : evP g F x = some v) : evP g' F x = some v := by
  unfold pC at hc
  split at hc <;> try first | (cases hc; done) | (rcases hl with hl | hl <;> cases hl; done)
  · rename_i t a b
    simp only [Bool.and_eq_true] at hc
    have h1 := hev a (by simp [Op.operands]) b hc.2
    simp only [evP, opLoad1] at h ⊢
    split at h
    · rename_i u e
      rw [loadV_mono h1 hg e]
      exact h
    · cases h
  · rename_i t a n b
    simp only [Bool.and_eq_true] at hc
    have h1 := hev a (by simp [Op.operands]) b hc.2
    simp only [evP, opLoadN] at h ⊢
    obtain ⟨vs, e, rfl⟩ := Option.map_eq_some_iff.1 h
    rw [loadV_mono h1 hg e]
    rfl
  · rename_i t a lo hi n z a' lo' hi'
    simp only [Bool.and_eq_true] at hc
    have h1 := hev a (by cases lo <;> cases hi <;> simp [Op.operands]) a' hc.1.1.2
    simp only [evP, opSliceArr] at h ⊢
    split at h
    · rename_i ad e
      obtain ⟨vs, e2, h2⟩ := Option.bind_eq_some_iff.1 h
      rw [e] at e2 h1 ⊢
      rw [loadV_mono h1 hg e2]
      exact h2
    · cases h
  · rename_i t a k ok q zero ok' a' k'
    simp only [Bool.and_eq_true] at hc
    have h1 := hev a (by simp [Op.operands]) a' hc.1.2
    simp only [evP, opLookup] at h ⊢
    obtain ⟨h2, h3⟩ := bif_some h
    rw [h2]
    simp only [cond_true]
    split at h3
    · cases h3
    · rename_i es e
      rw [mapOf_mono h1 hg e]
      exact h3
  · rename_i args argTypes x0
    split at hc
    · rename_i a t e1 e2
      simp only [Bool.and_eq_true] at hc
      have a1 : args = #[a] := by rw [← Array.toList_inj]; simpa using e1
      have h1 := hev a (by simp [Op.operands, Call.operands, a1]) _ hc.2
      simp only [evP, opLenMap] at h ⊢
      obtain ⟨es, e, rfl⟩ := Option.map_eq_some_iff.1 h
      rw [mapOf_mono h1 hg e]
      rfl
    · cases hc

theorem evP_still {x : POp} (h1 : isLoad (.p x) = false) (h2 : isRead (.p x) = false) : evP g F x = evP g' F x := by
  cases x <;> first | rfl | (cases h1; done) | (cases h2; done)

theorem loadOf_some {x : POp} (h : isLoad (.p x) = true) : ∃ p n, loadOf F x = some (p, n) ∧ (∀ g g' : Get, loadV g p n = loadV g' p n → evP g F x = evP g' F x) := by
  cases x <;> try (cases h; done)
  · rename_i a
    exact ⟨_, _, rfl, fun g g' e => by simp only [evP, opLoad1, e]⟩
  · rename_i n a
    exact ⟨_, _, rfl, fun g g' e => by simp only [evP, opLoadN, e]⟩

theorem loadOf_opd {o : Op} {x : POp} {p : Value} {n : Nat} (hc : pC P o x = true) (hev : EvR φ F ρ o.operands.toList) (h : loadOf F x = some (p, n)) : ∃ q, V φ p q := by
  unfold pC at hc
  split at hc <;> try first | (cases hc; done) | (simp only [loadOf] at h; cases h; done)
  · rename_i t a b
    simp only [Bool.and_eq_true] at hc
    simp only [loadOf, Option.some.injEq, Prod.mk.injEq] at h
    rw [← h.1]
    exact ⟨_, hev a (by simp [Op.operands]) b hc.2⟩
  · rename_i t a m b
    simp only [Bool.and_eq_true] at hc
    simp only [loadOf, Option.some.injEq, Prod.mk.injEq] at h
    rw [← h.1]
    exact ⟨_, hev a (by simp [Op.operands]) b hc.2⟩
end

theorem opdC_V {φ : Emb} {F : Fr} {a : Act} {x : Operand} {y : COpd} (h : opdC x y = true) (ht : ∀ t, x = .tmp t → V φ (F t) (a.tmps.getD t undef)) : V φ (y.ev F) (a.eval x) := by
  unfold opdC at h
  split at h
  · rename_i t t'
    have := Nat.eq_of_beq_eq_true h
    subst this
    exact ht t rfl
  · exact constC_V h
  · have := Nat.eq_of_beq_eq_true h
    subst this
    exact .fn rfl (fun _ h => absurd h (Nat.not_lt_zero _))
  · exact .unk _ _
  · cases h

section
variable {P : Program} {B0 N na : Nat} {call : CallF} {ops : Array Oper} {cops : List CO} {F0 : Fr} {s : St} {R : Type} {K : Fr → St → Option R} {r : R} {φ0 : Emb} {w0 : World}
variable {D : Nat → Bool} {pe : Nat} {φ : Emb} {ts : Array Value} {w : World} {HD : Get}

theorem RInv.evr (I : RInv P B0 N call ops cops F0 s na φ0 w0 D pe φ ts w HD) (h : Ran P N call ops cops F0 s na K r) {x : Nat} (hx : x < ops.size) (hD : D x = false) (hr : readyP ops D x) (ds : List Deferred) :
    EvR φ (sq call cops F0 s na x).1 (⟨ts, ds⟩ : Act).eval (ops.getD x default).op.operands.toList := by
  intro z hz y hy
  refine opdC_V hy fun t ht => ?_
  subst ht
  refine I.read h hx hD hr ?_
  unfold readsOf slotsOf
  exact List.mem_append_left _ (List.mem_filterMap.2 ⟨.tmp t, hz, rfl⟩)

/-- The guard of a ready operation. -/
theorem RInv.guard (I : RInv P B0 N call ops cops F0 s na φ0 w0 D pe φ ts w HD) (h : Ran P N call ops cops F0 s na K r) {x : Nat} (hx : x < ops.size) (hD : D x = false) (hr : readyP ops D x)
    {o : CO} (ho : cops[x]? = some o) {b : Bool} (hg : guardOk (sq call cops F0 s na x).1 o.guard = some b) : Region.wanted (ops.getD x default) (yielded ops ts) = b := by
  have hc := (h.c.each x hx).2.1
  rw [getD_some ho] at hc
  unfold guardC at hc
  split at hc
  · rename_i e1 e2
    rw [e2] at hg
    simp only [guardOk, Option.some.injEq] at hg
    subst hg
    unfold Region.wanted
    rw [e1]
  · rename_i j b1 t b2 e1 e2
    simp only [Bool.and_eq_true] at hc
    obtain ⟨⟨h1, h2⟩, h3⟩ := hc
    have h1 : b1 = b2 := by simpa using h1
    subst h1
    have h2 := Nat.le_of_ble_eq_true h2
    split at h3
    · rename_i d hd
      have h3 := Nat.eq_of_beq_eq_true h3
      subst h3
      have hj : ops[j]? = some (ops.getD j default) := by
        have : j < ops.size := by omega
        simp [Array.getD_eq_getD_getElem?, this]
      have hv : V φ ((sq call cops F0 s na x).1 d) (ts.getD d undf) := by
        refine I.read h hx hD hr ?_
        unfold readsOf
        refine List.mem_append_right _ ?_
        rw [e1]
        dsimp only
        rw [hj, Option.bind_some, hd]
        exact List.mem_singleton.2 rfl
      have hdN : d < ts.size := by
        have := (h.c.each j (by omega)).1
        rw [hd] at this
        unfold dstC at this
        split at this
        · rename_i q1 q2; cases q1
        · rename_i d1 d2 q1 q2
          cases q1
          simp only [Bool.and_eq_true] at this
          rw [I.size]
          exact Nat.le_of_ble_eq_true this.2
        · cases this
      rw [e2] at hg
      simp only [guardOk, opGuard] at hg
      have hy : yielded ops ts j = (match ts.getD d undf with
          | .bool b => some b
          | _ => none) := by
        unfold yielded
        rw [hj, Option.bind_some, hd, Option.bind_some, Array.getD_eq_getD_getElem?, Array.getElem?_eq_getElem hdN, Option.getD_some]
        generalize ts[d] = q
        cases q <;> rfl
      split at hg
      · rename_i c hF
        rw [hF] at hv
        rw [hv.inv_bool] at hy
        simp only [Option.some.injEq] at hg
        subst hg
        unfold Region.wanted
        rw [e1]
        dsimp only
        rw [hy]
        cases c <;> cases b1 <;> rfl
      · rename_i hF
        rw [hF] at hv
        obtain ⟨ys, hys, hl⟩ := hv.inv_tuple
        rw [hys] at hy
        simp only [Option.some.injEq] at hg
        subst hg
        unfold Region.wanted
        rw [e1]
        dsimp only
        rw [hy]
        rfl
      · cases hg
    · cases h3
  · cases hc

/-- What an operation that computes or reads finds, whatever is done. -/
theorem RInv.evP (I : RInv P B0 N call ops cops F0 s na φ0 w0 D pe φ ts w HD) (h : Ran P N call ops cops F0 s na K r) {x : Nat} (hx : x < ops.size) (hD : D x = false) (hr : readyP ops D x)
    {o : CO} {p : POp} (ho : cops[x]? = some o) (hop : o.op = .p p) (hg : guardOk (sq call cops F0 s na x).1 o.guard = some true) :
    evP HD (sq call cops F0 s na x).1 p = some (vq call cops F0 s na x) := by
  have hs := h.c.size
  obtain ⟨s', e1, _⟩ := h.succ ho
  simp only [evStep, hop, hg, gd] at e1
  obtain ⟨v, e2, e3⟩ := Option.map_eq_some_iff.1 e1
  simp only [Prod.mk.injEq] at e3
  rw [← e3.1]
  clear e1 e3
  have hc := (h.c.each x hx).2.2
  rw [getD_some ho, hop] at hc
  have hc : pC P (ops.getD x default).op p = true := hc
  have hev := I.evr h hx hD hr []
  cases hl : isLoad (.p p) with
  | true =>
    obtain ⟨a, n, hlo, hsame⟩ := loadOf_some (F := (sq call cops F0 s na x).1) hl
    obtain ⟨q, hq⟩ := loadOf_opd hc hev hlo
    suffices hfin : loadV HD a n = loadV (sq call cops F0 s na x).2.get a n by
      rw [hsame _ _ hfin]
      exact e2
    have hex : ∃ vs, loadV (sq call cops F0 s na x).2.get a n = some vs := by
      cases p <;> try (cases hl; done)
      · simp only [loadOf, Option.some.injEq, Prod.mk.injEq] at hlo
        obtain ⟨rfl, rfl⟩ := hlo
        simp only [Ev.evP, opLoad1] at e2
        split at e2
        · exact ⟨_, by assumption⟩
        · cases e2
      · simp only [loadOf, Option.some.injEq, Prod.mk.injEq] at hlo
        obtain ⟨rfl, rfl⟩ := hlo
        simp only [Ev.evP, opLoadN] at e2
        obtain ⟨vs, e, _⟩ := Option.map_eq_some_iff.1 e2
        exact ⟨vs, e⟩
    obtain ⟨vs, hvs⟩ := hex
    rw [hvs]
    have hlo' : isLoad o.op = true := by rw [hop]; exact hl
    by_cases hpx : pe ≤ x
    · by_cases hne : noEff cops pe x
      · exact loadV_mono hq (I.ge h hpx (by omega) hne) hvs
      · -- the first effect that is not done
        have : ∃ j, pe ≤ j ∧ j < x ∧ effAt cops j ∧ noEff cops pe j := by
          unfold noEff at hne
          simp only [Classical.not_forall, Classical.not_not] at hne
          obtain ⟨q0, c1, c2, c3⟩ := hne
          clear hvs
          induction q0 using Nat.strongRecOn with
          | _ q0 ih =>
            by_cases hh : noEff cops pe q0
            · exact ⟨q0, c1, c2, c3, hh⟩
            · unfold noEff at hh
              simp only [Classical.not_forall, Classical.not_not] at hh
              obtain ⟨q1, d1, d2, d3⟩ := hh
              exact ih q1 d2 d1 (by omega) d3
        obtain ⟨j, c1, c2, c3, c4⟩ := this
        have hcov := cover_spec h.c (i := x) (by omega) c3
        unfold coverAt at hcov
        simp only [getD_some ho, hlo', cond_true, ble_succ c2] at hcov
        rw [Bool.or_eq_true] at hcov
        rcases hcov with hb | hb
        · have h1 := behind_spec hb I.clo hr
          have h2 := (I.eff j c3).1 h1
          omega
        · have hb := Nat.le_of_ble_eq_true hb
          obtain ⟨o', g1, g2⟩ := c3
          cases hchk : o.chk with
          | none => rw [hchk] at hb; simp at hb
          | some mk =>
            obtain ⟨m, k⟩ := mk
            rw [hchk] at hb
            obtain ⟨vs', f1, f2⟩ := load_ahead h.ev ho g1 c2 g2 hop hchk hlo hg hb
            rw [hvs] at f1
            cases f1
            exact loadV_mono hq (I.ge h c1 (by omega) c4) (sameLoad_eq f2)
    · rcases I.peEff with h0 | ⟨q1, hq1, he⟩
      · omega
      · have hxq : x < q1 := by
          rcases Nat.lt_trichotomy x q1 with h1 | h1 | h1
          · exact h1
          · subst h1
            obtain ⟨o', g1, g2⟩ := he
            rw [ho] at g1
            cases g1
            rw [hop] at g2
            cases g2
          · omega
        have hcov := cover_spec h.c (i := x) (by omega) he
        unfold coverAt at hcov
        simp only [getD_some ho, hlo', cond_true, ble_not (Nat.le_of_lt hxq), cond_false, ble_succ hxq] at hcov
        rw [Bool.or_eq_true] at hcov
        have hDq := (I.eff q1 he).2 (by omega)
        rcases hcov with hb | hb
        · have h1 := behind_spec hb I.clo (I.clo q1 hDq).2
          rw [hD] at h1
          cases h1
        · have hb := Nat.le_of_ble_eq_true hb
          obtain ⟨o', g1, g2⟩ := he
          have hpos : 1 ≤ cntL (cops.drop (x + 1)) (q1 - x) := by
            have hj' : (cops.drop (x + 1))[q1 - x - 1]? = some o' := by
              rw [List.getElem?_drop]
              have : x + 1 + (q1 - x - 1) = q1 := by omega
              rw [this]
              exact g1
            have hji : q1 - x = (q1 - x - 1) + 1 := by omega
            rw [hji]
            generalize q1 - x - 1 = q2 at hj' ⊢
            generalize cops.drop (x + 1) = l at hj' ⊢
            clear hb hji
            induction l generalizing q2 with
            | nil => simp at hj'
            | cons a as ih =>
              cases q2 with
              | zero =>
                simp only [List.getElem?_cons_zero, Option.some.injEq] at hj'
                subst hj'
                simp [cntL, g2]
              | succ q2 => have := ih q2 (by simpa using hj'); simp only [cntL] at this ⊢; omega
          cases hchk : o.chk with
          | none => rw [hchk] at hb; simp at hb; omega
          | some mk =>
            obtain ⟨m, k⟩ := mk
            rw [hchk] at hb
            obtain ⟨vs', f1, f2⟩ := load_behind h.ev ho g1 hxq g2 hop hchk hlo hg hb
            rw [hvs] at f1
            cases f1
            subst hq1
            exact loadV_mono hq (I.ge h (Nat.le_refl _) I.pe_le (fun q h1 h2 => by omega)) (sameLoad_eq f2)
  | false =>
    cases hrd : isRead (.p p) with
    | true =>
      obtain ⟨h1, h2⟩ := I.placed h hx hD hr ho (by rw [hop]; exact hl) (.inl (by rw [hop]; exact hrd))
      exact evP_mono hc hev (.inr hrd) (I.ge h h1 (by omega) h2) e2
    | false =>
      rw [evP_still (g' := (sq call cops F0 s na x).2.get) hl hrd]
      exact e2
end

/-! ### The machine's step at an operation -/
section
variable {P : Program} {b : Frame} {a : Act} {k : List Item} {cs : List Frame} {w w' : World} {ops : Array Oper} {i : Nat} {rest : List Nat}

/-- What a call comes to: at once, or by another frame. -/
def CallDo (P : Program) (S : Sem Next) (w : World) (v : Value) (w' : World) : Prop :=
  S.run P w = .ok (.value v) w' ∨
  (∃ f args w1, S.run P w = .ok (.enter f args) w1 ∧ ∀ c cs, Steps P (lone (Frame.enter P f args .normal) (c :: cs) w1) (lone (c.finish v) cs w')) ∨
  (∃ l f tmps asg body w1, S.run P w = .ok (.round l f tmps asg body) w1 ∧ ∀ c cs, Steps P (lone (Frame.round l f tmps asg body .normal) (c :: cs) w1) (lone (c.finish v) cs w'))

theorem steps_op {o : Oper} (ho : ops[i]? = some o) (hw : Region.wanted o (yielded ops a.tmps) = true) (hd : ∀ c, o.op ≠ .defer c) {v : Value} (hr : okVal ((execOp a.eval o).run P w) v w') :
    Steps P (lone (b.atR a (.inRegion ops (i :: rest) :: k)) cs w) (lone (b.atR (a.put o.dst v) (.inRegion ops rest :: k)) cs w') := by
  have hg := stepGR_op (P := P) (b := b) (k := k) (cs := cs) (w := w) (rest := rest) ho hw
  rw [Oper.semAt_eq _ _ _ hd] at hg
  have hfin : ∀ v, (b.atR a (.inRegion ops (i :: rest) :: k)).finish v = b.atR (a.put o.dst v) (.inRegion ops rest :: k) := by
    intro v; rw [Frame.finish_atR, ho]; rfl
  refine .one (step_lone_go ?_)
  rw [hg, ← hfin]
  rcases hr with hr | ⟨hr, rfl⟩ <;> simp [stepG.apply, hr, undef]

theorem steps_skip {o : Oper} (ho : ops[i]? = some o) (hw : Region.wanted o (yielded ops a.tmps) = false) :
    Steps P (lone (b.atR a (.inRegion ops (i :: rest) :: k)) cs w) (lone (b.atR (a.put o.dst undef) (.inRegion ops rest :: k)) cs w) := by
  have := stepR_op_skip (P := P) (b := b) (a := a) (k := k) (cs := cs) (w := w) (ops := ops) (i := i) (rest := rest) (by simp [ho, hw])
  rw [ho] at this
  exact .one this

theorem steps_call {o : Oper} (ho : ops[i]? = some o) (hw : Region.wanted o (yielded ops a.tmps) = true) (hd : ∀ c, o.op ≠ .defer c) {v : Value} (hr : CallDo P (execOp a.eval o) w v w') :
    Steps P (lone (b.atR a (.inRegion ops (i :: rest) :: k)) cs w) (lone (b.atR (a.put o.dst v) (.inRegion ops rest :: k)) cs w') := by
  have hg := stepGR_op (P := P) (b := b) (k := k) (cs := cs) (w := w) (rest := rest) ho hw
  rw [Oper.semAt_eq _ _ _ hd] at hg
  have hfin : ∀ v, (b.atR a (.inRegion ops (i :: rest) :: k)).finish v = b.atR (a.put o.dst v) (.inRegion ops rest :: k) := by
    intro v; rw [Frame.finish_atR, ho]; rfl
  rcases hr with hr | ⟨f, args, w1, hr, hs⟩ | ⟨l, f, tmps, asg, body, w1, hr, hs⟩
  · refine .one (step_lone_go ?_)
    rw [hg, ← hfin]
    simp [stepG.apply, hr]
  · have henter : step P (lone (b.atR a (.inRegion ops (i :: rest) :: k)) cs w) =
        .next (lone (Frame.enter P f args .normal) (b.atR a (.inRegion ops (i :: rest) :: k) :: cs) w1) :=
      step_lone_go (by rw [hg]; simp [stepG.apply, hr, Frame.atR])
    have h2 := hs (b.atR a (.inRegion ops (i :: rest) :: k)) cs
    rw [hfin] at h2
    exact .head henter h2
  · have henter : step P (lone (b.atR a (.inRegion ops (i :: rest) :: k)) cs w) =
        .next (lone (Frame.round l f tmps asg body .normal) (b.atR a (.inRegion ops (i :: rest) :: k) :: cs) w1) :=
      step_lone_go (by rw [hg]; simp [stepG.apply, hr, Frame.atR])
    have h2 := hs (b.atR a (.inRegion ops (i :: rest) :: k)) cs
    rw [hfin] at h2
    exact .head henter h2
end
end Go.Ev

namespace Go.Ev

/-- Calls are simulated. -/
def HCall (P : Program) (B0 : Nat) (call : CallF) : Prop :=
  ∀ (φ : Emb) (s : St) (w : World) (f f' : Value) (args args' : List Value) (v : Value) (s' : St), Good P B0 φ s w → V φ f f' → VL φ args args' → call f args s = some (v, s') →
    ∃ φ' w' v', Step P B0 φ s w φ' s' w' ∧ V φ' v v' ∧ CallDo P (do let d ← Deferred.ofValue f' ⟨args'⟩; invoke d.target d.args) w v' w'

theorem eC_call {P : Program} {o : Op} {x : EOp} (hc : eC P o x = true) (hx : isCall x = true) :
    ∃ c f f' args', o = .call c ∧ c.callee = .value f ∧ x = .call f' args' ∧ opdC f f' = true ∧ opdsC c.args.toList args' = true := by
  cases x <;> try (cases hx; done)
  rename_i f' args'
  unfold eC at hc
  split at hc <;> rename_i e <;> try (cases e; done)
  · cases e
    simp only [Bool.and_eq_true] at hc
    exact ⟨_, _, _, _, rfl, rfl, rfl, hc.1, hc.2⟩
  · cases hc

section
variable {P : Program} {B0 N na : Nat} {call : CallF} {ops : Array Oper} {cops : List CO} {F0 : Fr} {s : St} {R : Type} {K : Fr → St → Option R} {r : R} {φ0 : Emb} {w0 : World}
variable {D : Nat → Bool} {pe : Nat} {φ : Emb} {ts : Array Value} {w : World} {HD : Get}

theorem put_ds (ts : Array Value) (ds : List Deferred) (d : Option Nat) (v : Value) : (⟨ts, ds⟩ : Act).put d v = ⟨((⟨ts, []⟩ : Act).put d v).tmps, ds⟩ := by
  cases d <;> rfl

theorem notDefer {o : Op} {c : COp} (h : copC P o c = true) (hne : c ≠ .p .fail) : ∀ c', o ≠ .defer c' := by
  rintro c' rfl
  cases c with
  | p x =>
    have h' : pC P (.defer c') x = true := h
    unfold pC at h'
    split at h' <;> first | (rename_i e _; cases e; done) | (rename_i e; cases e; done) | exact hne rfl | (cases h'; done)
  | a r x =>
    have h' : aC P (.defer c') x = true := h
    unfold aC at h'
    split at h' <;> first | (rename_i e _; cases e; done) | (rename_i e; cases e; done) | (cases h'; done)
  | e x =>
    have h' : eC P (.defer c') x = true := h
    unfold eC at h'
    split at h' <;> first | (rename_i e _; cases e; done) | (rename_i e; cases e; done) | (cases h'; done)

theorem guard_cases {g : Option Bool} {α : Type} {x : Option α} {d v : α} (h : gd g x d = some v) : (g = some true ∧ x = some v) ∨ (g = some false ∧ v = d) := by
  unfold gd at h
  split at h
  · cases h
  · exact .inl ⟨rfl, h⟩
  · simp only [Option.some.injEq] at h; exact .inr ⟨rfl, h.symm⟩

/-- One operation more. -/
theorem RInv.step (hcall : HCall P B0 call) (I : RInv P B0 N call ops cops F0 s na φ0 w0 D pe φ ts w HD) (h : Ran P N call ops cops F0 s na K r) {x : Nat} (hx : x < ops.size) (hD : D x = false) (hr : readyP ops D x)
    (b : Frame) (ds : List Deferred) :
    ∃ pe' φ' ts' w' HD', RInv P B0 N call ops cops F0 s na φ0 w0 (setD D x) pe' φ' ts' w' HD' ∧ ∀ (rest : List Nat) (k : List Item) (cs : List Frame),
      Steps P (lone (b.atR ⟨ts, ds⟩ (.inRegion ops (x :: rest) :: k)) cs w) (lone (b.atR ⟨ts', ds⟩ (.inRegion ops rest :: k)) cs w') := by
  have hs := h.c.size
  have hxl : x < cops.length := by omega
  have ho : cops[x]? = some cops[x] := by simp
  generalize hco : cops[x] = co at ho
  have hoo : ops[x]? = some (ops.getD x default) := by simp [Array.getD_eq_getD_getElem?, hx]
  have hc := (h.c.each x hx).2.2
  rw [getD_some ho] at hc
  obtain ⟨s', e1, e2⟩ := h.succ ho
  have hev := I.evr h hx hD hr ds
  cases hop : co.op with
  | p p =>
    simp only [evStep, hop] at e1
    obtain ⟨v, e3, e4⟩ := Option.map_eq_some_iff.1 e1
    simp only [Prod.mk.injEq] at e4
    rcases guard_cases e3 with ⟨hg, _⟩ | ⟨hg, hv⟩
    · have hwant := I.guard h hx hD hr ho hg
      have hev' := I.evP h hx hD hr ho hop hg
      rw [hop] at hc
      have hnd := notDefer hc (by rintro q; cases q; cases hev')
      obtain ⟨v', r1, r2⟩ := sim_p (ρ := (⟨ts, ds⟩ : Act).eval) (o := ops.getD x default) hc I.rel hev hev'
      have I' := I.doP h hx hD hr ho hop r2
      refine ⟨pe, φ, _, w, HD, I', fun rest k cs => ?_⟩
      have := steps_op (P := P) (b := b) (k := k) (cs := cs) (rest := rest) (a := ⟨ts, ds⟩) hoo hwant hnd (.inl r1)
      rw [put_ds] at this
      exact this
    · have hwant := I.guard h hx hD hr ho hg
      have hvq : vq call cops F0 s na x = undf := by rw [← e4.1, hv]
      have I' := I.doP h hx hD hr ho hop (v' := undef) (by rw [hvq]; exact .tuple' (VL.nil φ))
      refine ⟨pe, φ, _, w, HD, I', fun rest k cs => ?_⟩
      have := steps_skip (P := P) (b := b) (k := k) (cs := cs) (w := w) (rest := rest) (a := ⟨ts, ds⟩) hoo hwant
      rw [put_ds] at this
      exact this
  | a rk p =>
    obtain ⟨ob, a1, a2, a3⟩ := h.al ho hop
    obtain ⟨_, _, g1, _⟩ := ((ranksC_spec h.c.ranks).2 x co ho).1 rk p hop
    have hwant := I.guard (b := true) h hx hD hr ho (by rw [g1]; rfl)
    rw [hop] at hc
    have hnd := notDefer hc (by rintro q; cases q)
    obtain ⟨v', cobj, sz, r1, r2, r3⟩ := sim_a (P := P) (w := w) (ρ := (⟨ts, ds⟩ : Act).eval) (o := ops.getD x default) hc (I.und x _ ob a3 hD) hev a1
    obtain ⟨HD', I'⟩ := I.doA h hx hD hr a3 r3 r2
    refine ⟨pe, _, _, _, HD', I', fun rest k cs => ?_⟩
    have := steps_op (P := P) (b := b) (k := k) (cs := cs) (rest := rest) (a := ⟨ts, ds⟩) hoo hwant hnd (.inl r1)
    rw [put_ds] at this
    exact this
  | e p =>
    have heff : effAt cops x := ⟨co, ho, by rw [hop]; rfl⟩
    obtain ⟨h1, h2⟩ := I.placed h hx hD hr ho (by rw [hop]; rfl) (.inr (by rw [hop]; rfl))
    have hgood := I.good h (by omega) h1 h2
    simp only [evStep, hop] at e1
    rcases guard_cases e1 with ⟨hg, he⟩ | ⟨hg, hv⟩
    · have hwant := I.guard h hx hD hr ho hg
      have hss : (sq call cops F0 s na (x + 1)).2 = s' := by rw [e2]
      rw [← hss] at he
      rw [hop] at hc
      have hnd := notDefer hc (by rintro q; cases q)
      cases hic : isCall p with
      | false =>
        obtain ⟨v', φ', w', r1, r2, r3⟩ := sim_e0 (ρ := (⟨ts, ds⟩ : Act).eval) (o := ops.getD x default) hgood hc hic hev he
        obtain ⟨HD', I'⟩ := I.doE h hx hD hr heff h1 h2 r2 r3
        refine ⟨_, φ', _, w', HD', I', fun rest k cs => ?_⟩
        have := steps_op (P := P) (b := b) (k := k) (cs := cs) (rest := rest) (a := ⟨ts, ds⟩) hoo hwant hnd r1
        rw [put_ds] at this
        exact this
      | true =>
        obtain ⟨c, f, f', args', q1, q2, q3, q4, q5⟩ := eC_call hc hic
        subst q3
        have hVf : V φ (f'.ev (sq call cops F0 s na x).1) ((⟨ts, ds⟩ : Act).eval f) := hev f (by rw [q1]; simp [Op.operands, Call.operands, q2]) f' q4
        have hVa : VL φ (evArgs (sq call cops F0 s na x).1 args') (c.args.toList.map (⟨ts, ds⟩ : Act).eval) :=
          evArgs_VL (fun z hz => hev z (by rw [q1]; simp [Op.operands, Call.operands]; exact .inr (by simpa using hz))) q5
        obtain ⟨φ', w', v', r1, r2, r3⟩ := hcall φ _ w _ _ _ _ _ _ hgood hVf hVa he
        obtain ⟨HD', I'⟩ := I.doE h hx hD hr heff h1 h2 r1 r2
        refine ⟨_, φ', _, w', HD', I', fun rest k cs => ?_⟩
        have hdo : CallDo P (execOp (⟨ts, ds⟩ : Act).eval (ops.getD x default)) w v' w' := by
          have : execOp (⟨ts, ds⟩ : Act).eval (ops.getD x default) = (do let d ← Deferred.ofValue ((⟨ts, ds⟩ : Act).eval f) ⟨c.args.toList.map (⟨ts, ds⟩ : Act).eval⟩; invoke d.target d.args) := by
            unfold execOp
            rw [q1]
            simp only [resolve, q2]
            have : c.args.map (⟨ts, ds⟩ : Act).eval = ⟨c.args.toList.map (⟨ts, ds⟩ : Act).eval⟩ := by rw [← Array.toList_inj]; simp
            rw [this]
          rw [this]
          exact r3
        have := steps_call (P := P) (b := b) (k := k) (cs := cs) (rest := rest) (a := ⟨ts, ds⟩) hoo hwant hnd hdo
        rw [put_ds] at this
        exact this
    · have hwant := I.guard h hx hD hr ho hg
      simp only [Prod.mk.injEq] at hv
      have hss : (sq call cops F0 s na (x + 1)).2 = (sq call cops F0 s na x).2 := by rw [e2]; exact hv.2
      obtain ⟨HD', I'⟩ := I.doE h hx hD hr heff h1 h2 (v' := undef) (by rw [hss]; exact Step.refl hgood) (by rw [hv.1]; exact .tuple' (VL.nil φ))
      refine ⟨_, φ, _, w, HD', I', fun rest k cs => ?_⟩
      have := steps_skip (P := P) (b := b) (k := k) (cs := cs) (w := w) (rest := rest) (a := ⟨ts, ds⟩) hoo hwant
      rw [put_ds] at this
      exact this

theorem RInv.run (hcall : HCall P B0 call) (h : Ran P N call ops cops F0 s na K r) (b : Frame) (ds : List Deferred) {l : List Nat} (hl : Lin ops D l) :
    ∀ {pe : Nat} {φ : Emb} {ts : Array Value} {w : World} {HD : Get}, RInv P B0 N call ops cops F0 s na φ0 w0 D pe φ ts w HD →
    ∃ D' pe' φ' ts' w' HD', (∀ i, i < ops.size → D' i = true) ∧ RInv P B0 N call ops cops F0 s na φ0 w0 D' pe' φ' ts' w' HD' ∧ ∀ (k : List Item) (cs : List Frame),
      Steps P (lone (b.atR ⟨ts, ds⟩ (.inRegion ops l :: k)) cs w) (lone (b.atR ⟨ts', ds⟩ k) cs w') := by
  induction hl with
  | done hD => intro pe φ ts w HD I; exact ⟨_, _, _, _, _, _, hD, I, fun k cs => .one stepR_region_end⟩
  | step hi hD hr _ ih =>
    intro pe φ ts w HD I
    obtain ⟨pe1, φ1, ts1, w1, HD1, I1, s1⟩ := I.step hcall h hi hD hr b ds
    obtain ⟨D', pe', φ', ts', w', HD', a, I2, s2⟩ := ih I1
    exact ⟨D', pe', φ', ts', w', HD', a, I2, fun k cs => (s1 _ k cs).trans (s2 k cs)⟩

theorem valD_none {dst : Nat → Option Nat} {vs : Nat → Value} {F0 : Fr} : ∀ n, valD (fun _ => false) dst vs F0 n = F0
  | 0 => rfl
  | n + 1 => by simp [valD, valD_none n]

theorem RInv.first (h : Ran P N call ops cops F0 s na K r) (g : Good P B0 φ s w) (hf : FRel φ F0 ts) (hN : ts.size = N) :
    RInv P B0 N call ops cops F0 s na φ w (fun _ => false) 0 φ ts w s.get := by
  have h0 : sq call cops F0 s na 0 = (F0, s.bump na) := by
    show seqAt call s.next cops F0 (s.bump na) 0 = _
    cases cops <;> rfl
  have hwm := h.wm
  refine ⟨(fun i hi => by cases hi), Nat.zero_le _, fun j _ => by simp, .inl rfl, fun t => by rw [valD_none]; exact hf t, hN, g.rel, (fun a i ob k hd => by cases hd), fun i _ => by rw [h0]; rfl, fun a i ob k _ => ?_,
    fun a i ob k _ hlt => absurd hlt (Nat.not_lt_zero _), fun a i ob k _ => ?_, fun i hi => ?_, by rw [h0]; exact Nat.le_refl _, by rw [h0]; rfl, g.B0, Tr.refl _ _ _ _, fun i _ => by rw [h0]; rfl, fun i _ hn => by rw [h0]; exact hn,
    fun i _ hn => ⟨hn, by rw [h0]; rfl⟩⟩
  · exact (g.fresh i (k.range h).1).1
  · rw [h0]; exact (g.fresh i (k.range h).1).2
  · rw [h0] at hi ⊢
    have hi' : s.next + na ≤ i := hi
    exact g.fresh i (by omega)

theorem RInv.last (h : Ran P N call ops cops F0 s na K r) (hall : ∀ i, i < ops.size → D i = true) (I : RInv P B0 N call ops cops F0 s na φ0 w0 D pe φ ts w HD) :
    Step P B0 φ0 s w0 φ (sq call cops F0 s na cops.length).2 w ∧ FRel φ (sq call cops F0 s na cops.length).1 ts := by
  have hs := h.c.size
  have hne : noEff cops pe cops.length := by
    intro q h1 h2 he
    have := (I.eff q he).1 (hall q (by omega))
    omega
  obtain ⟨b1, b2, b3, b4⟩ := h.between cops.length I.pe_le (Nat.le_refl _) hne
  have hwm := h.wm
  have hn := I.nxt
  have old : ∀ i, i < s.next → (sq call cops F0 s na cops.length).2.get i = (sq call cops F0 s na pe).2.get i := fun i hi =>
    b2 i (fun a ob k _ _ => by have := k.range h; omega)
  refine ⟨⟨I.good h (Nat.le_refl _) I.pe_le hne, ⟨I.tr.ext, I.tr.os, I.tr.tape, I.tr.output, I.tr.size, I.tr.keep, fun i b x hi e hw => ?_, I.tr.newim, I.tr.ice⟩, by rw [b4, I.wm], by rw [b3]; omega, fun i hi => ?_, fun i hi hg => ?_, fun i hi hb => ?_⟩, fun t => ?_⟩
  · refine I.tr.new i b x hi e ?_
    cases hg : (sq call cops F0 s na cops.length).2.get i with
    | none => rw [hg] at hw; cases hw
    | some o =>
      rw [I.ge h I.pe_le (Nat.le_refl _) hne i o (by rw [e]; simp) hg, ← hg]
      exact hw
  · rw [old i (by omega)]; exact I.low i hi
  · rw [old i hi]; exact I.abs0 i hi hg
  · rw [old i hi]; exact I.unb0 i hi hb
  · have h1 := I.fr t
    rw [valD_all _ (fun j hj _ => hall j (by omega))] at h1
    rw [h.fr _ (Nat.le_refl _)]
    exact h1

/-- A region, in any order that keeps what binds. -/
theorem sim_region (hcall : HCall P B0 call) (g : Good P B0 φ s w) (hf : FRel φ F0 ts) (hN : ts.size = N) (hc : regionC P N ops na cops = true) {L : List Nat} {e : Ex} {F' : Fr} {s' : St}
    (h : evRegion call na L cops F0 s = some (e, F', s')) {l : List Nat} (hl : Lin ops (fun _ => false) l) (b : Frame) (ds : List Deferred) :
    e = .normal ∧ ∃ φ' ts' w', Step P B0 φ s w φ' s' w' ∧ FRel φ' F' ts' ∧ ts'.size = N ∧ ∀ (k : List Item) (cs : List Frame),
      Steps P (lone (b.atR ⟨ts, ds⟩ (.inRegion ops l :: k)) cs w) (lone (b.atR ⟨ts', ds⟩ k) cs w') := by
  unfold evRegion at h
  rw [bumpK_eq] at h
  have hran : Ran P N call ops cops F0 s na (fun F' s' => some (Ex.normal, restrict L F', s')) (e, F', s') := ⟨h, regionC_spec hc, g.wm⟩
  have hend := seqAt_end cops h
  simp only [Option.some.injEq, Prod.mk.injEq] at hend
  obtain ⟨e1, e2, e3⟩ := hend
  obtain ⟨D', pe', φ', ts', w', HD', a, I2, s2⟩ := RInv.run hcall hran b ds hl (RInv.first hran g hf hN)
  obtain ⟨q1, q2⟩ := I2.last hran a
  refine ⟨e1.symm, φ', ts', w', ?_, ?_, I2.size, s2⟩
  · rw [← e3]; exact q1
  · rw [← e2]; exact FRel.restrict q2 L
end
end Go.Ev

