/-
  Code that is no call: simulated, in a frame of a function or of a round.

  Ranging over a function; functions; what is laid down for good.

  Functions: from their frames to their results; what pure ones lay down for good.

  Calls: pure ones, rounds; all of them, by induction.

  All calls are simulated.
-/
import Derived.Test.YtnmaachmjnmlmaaGreatFi
import Derived.RangeFuncLeaves
set_option linter.unusedVariables false
set_option linter.unusedSimpArgs false
set_option linter.unusedSectionVars false
namespace Go.Ev

/-! ### Steps that leave the ideal side alone -/
section
variable {P : Program} {B0 : Nat} {φ : Emb} {s : St} {w : World}

/-- The world's block that the evaluator does not know of. -/
theorem Step.junk (g : Good P B0 φ s w) (co : Obj) (hi0 : NoIce co := by intro _ _ _ h; first | (cases h; done) | (cases h; rfl)) : Step P B0 φ s w φ s (push w co) := by
  have hlt : ∀ {b : Nat} {o : Obj}, w.heap[b]? = some o → b < w.heap.size := fun h => (Array.getElem?_eq_some_iff.1 h).1
  refine ⟨⟨⟨fun i b δ sz e => ?_, fun i b δ sz e => ?_, g.rel.sep, g.rel.base, fun b cc e => ?_, g.rel.imsep⟩, g.fresh, g.wm, ?_⟩, ⟨Ext.refl _, rfl, rfl, rfl, ?_, fun b hb _ => push_old w co hb, fun i b x hi e h => .inr ⟨i, x, hi, e, h⟩, fun _ _ h => .inl h, fun b cc el fz h hf => ?_⟩, rfl, Nat.le_refl _,
    fun _ _ => rfl, fun _ _ h => h, fun _ _ h => ⟨h, rfl⟩⟩
  rotate_right 1
  · by_cases hb : b < w.heap.size
    · rwa [push_old w co hb] at h
    · exfalso
      have hl := (Array.getElem?_eq_some_iff.1 h).1
      rw [push_size] at hl
      have : b = w.heap.size := by omega
      subst this
      rw [push_new w co] at h
      exact hf (hi0 _ _ _ (Option.some.inj h))
  · rw [push_size]; have := g.rel.lt i b δ sz e; omega
  · rw [push_old w co (g.rel.lt i b δ sz e)]; exact g.rel.obj i b δ sz e
  · obtain ⟨el, fz, h⟩ := g.rel.imo b cc e
    exact ⟨el, fz, by rw [push_old w co (hlt h)]; exact h⟩
  · rw [push_size]; have := g.B0; omega
  · rw [push_size]; omega

/-- The block of a loop's deferred calls: nobody the evaluator knows of stands there. -/
theorem Rel.not_deferred {H : Get} (r : Rel P B0 φ H w) {b : Nat} {d : Option (List Deferred)} (hd : w.heap[b]? = some (.deferred d)) {i : Nat} {x : Nat × Nat} (e : φ.blk i = some (b, x)) : live (H i) = false := by
  have h := r.obj i b x.1 x.2 e
  rw [hd] at h
  cases hh : H i with
  | none => rfl
  | some o =>
    rw [hh] at h
    cases o with
    | dead => rfl
    | cells ro c => obtain ⟨_, _, _, h, _⟩ := h; cases h
    | map es => obtain ⟨_, _, h, _⟩ := h; cases h
    | loop l => obtain ⟨_, h, _⟩ := h; cases h

theorem Step.deferred_kept {φ' : Emb} {s' : St} {w' : World} (st : Step P B0 φ s w φ' s' w') (g : Good P B0 φ s w) {b : Nat} {d : Option (List Deferred)} (hd : w.heap[b]? = some (.deferred d)) :
    w'.heap[b]? = some (.deferred d) := by
  rw [st.tr.keep b (Array.getElem?_eq_some_iff.1 hd).1 ?_]
  · exact hd
  · intro i x _ e
    have := g.rel.not_deferred hd e
    cases hw : wr (s.get i) with
    | false => rfl
    | true => rw [live_of_wr hw] at this; cases this

theorem Step.take {φ0 : Emb} {s0 : St} {w0 : World} (st : Step P B0 φ0 s0 w0 φ s w) {b : Nat} {d : Option (List Deferred)} (hd : w.heap[b]? = some (.deferred d)) (h0 : w0.heap.size ≤ b) :
    Step P B0 φ0 s0 w0 φ s (setB w b (.deferred none)) := by
  have g := st.good
  have hb := (Array.getElem?_eq_some_iff.1 hd).1
  have hl := fun {i : Nat} {x : Nat × Nat} (e : φ.blk i = some (b, x)) => g.rel.not_deferred hd e
  refine ⟨⟨⟨fun i k δ sz e => by rw [setB_size]; exact g.rel.lt i k δ sz e, fun i k δ sz e => ?_, g.rel.sep, g.rel.base, fun k cc e => ?_, g.rel.imsep⟩, g.fresh, g.wm, by rw [setB_size]; exact g.B0⟩,
    ⟨st.tr.ext, st.tr.os, st.tr.tape, st.tr.output, by rw [setB_size]; exact st.tr.size, fun k hk h => ?_, st.tr.new, st.tr.newim, fun k cc el fz h hf => ?_⟩, st.wm, st.next, st.low, st.absent, st.unborn⟩
  rotate_right 1
  · by_cases hk : k = b
    · subst hk
      rw [setB_at w k _ hb] at h
      cases h
    · rw [setB_ne w b _ hk] at h
      exact st.tr.ice k cc el fz h hf
  · by_cases hk : k = b
    · subst hk
      rcases dead_of (hl e) with h | h <;> rw [h] <;> trivial
    · rw [setB_ne w b _ hk]; exact g.rel.obj i k δ sz e
  · obtain ⟨el, fz, h⟩ := g.rel.imo k cc e
    refine ⟨el, fz, ?_⟩
    rw [setB_ne w b]
    · exact h
    · rintro rfl; rw [hd] at h; cases h
  · rw [setB_ne w b _ (by omega)]
    exact st.tr.keep k hk h
end

/-- The marks among a frame's deferred calls. -/
def markOf (r : Nat) : Deferred := { target := .collected r, args := #[] }
structure Marks (B : Nat) (w : World) (ds : List Deferred) : Prop where
  ex : ∃ rs : List Nat, ds = rs.map markOf ∧ rs.Nodup ∧ ∀ r ∈ rs, B ≤ r ∧ w.heap[r]? = some (.deferred (some []))

theorem Marks.nil (B : Nat) (w : World) : Marks B w [] := ⟨[], rfl, .nil, fun r h => by cases h⟩
theorem Marks.kept {P : Program} {B0 B : Nat} {φ φ' : Emb} {s s' : St} {w w' : World} {ds : List Deferred} (m : Marks B w ds) (g : Good P B0 φ s w) (st : Step P B0 φ s w φ' s' w') : Marks B w' ds := by
  obtain ⟨rs, h1, h2, h3⟩ := m.ex
  exact ⟨rs, h1, h2, fun r hr => ⟨(h3 r hr).1, st.deferred_kept g (h3 r hr).2⟩⟩
theorem Marks.push {B : Nat} {w : World} {ds : List Deferred} (m : Marks B w ds) (hB : B ≤ w.heap.size) : Marks B (Ev.push w (.deferred (some []))) (markOf w.heap.size :: ds) := by
  obtain ⟨rs, rfl, h2, h3⟩ := m.ex
  refine ⟨w.heap.size :: rs, rfl, ?_, fun r hr => ?_⟩
  · refine List.nodup_cons.2 ⟨fun h => ?_, h2⟩
    have := (Array.getElem?_eq_some_iff.1 (h3 _ h).2).1
    omega
  · rcases List.mem_cons.1 hr with rfl | hr
    · exact ⟨hB, push_new w _⟩
    · obtain ⟨h4, h5⟩ := h3 r hr
      exact ⟨h4, by rw [push_old w _ (Array.getElem?_eq_some_iff.1 h5).1]; exact h5⟩

/-! ### Code -/
/-- Where a piece of code leaves off. -/
def Arr (P : Program) (m : Machine) (b : Frame) (k : List Item) (cs : List Frame) (a : Act) (w : World) : Ex → Prop
  | .normal => Steps P m (lone (b.atR a k) cs w)
  | .exit i => ∃ k', exitTo i k' = exitTo i k ∧ Steps P m (lone (b.atR a (.code (.exit i) :: k')) cs w)
  | .ret => ∃ k', Steps P m (lone (b.atR a (.code .ret :: k')) cs w)

theorem Arr.of_steps {P : Program} {m m1 : Machine} {b : Frame} {k : List Item} {cs : List Frame} {a : Act} {w : World} {e : Ex} (h : Steps P m m1) (h' : Arr P m1 b k cs a w e) : Arr P m b k cs a w e := by
  cases e with
  | normal => exact h.trans h'
  | exit i => obtain ⟨k', e, s⟩ := h'; exact ⟨k', e, h.trans s⟩
  | ret => obtain ⟨k', s⟩ := h'; exact ⟨k', h.trans s⟩

/-- An item that no exit stops at. -/
theorem Arr.pass {P : Program} {m : Machine} {b : Frame} {k : List Item} {x : Item} {cs : List Frame} {a : Act} {w : World} {e : Ex} (he : e ≠ .normal) (hx : ∀ i, exitTo i (x :: k) = exitTo i k)
    (h : Arr P m b (x :: k) cs a w e) : Arr P m b k cs a w e := by
  cases e with
  | normal => exact absurd rfl he
  | exit i => obtain ⟨k', e, s⟩ := h; exact ⟨k', e.trans (hx i), s⟩
  | ret => exact h

section
variable {P : Program} {b : Frame} {a : Act} {k : List Item} {cs : List Frame} {w : World}
theorem stepR_scope {c : Code} : step P (lone (b.atR a (.code (.scope c) :: k)) cs w) = .next (lone (b.atR a (.code c :: .inScope c :: k)) cs w) :=
  step_lone_go (by simp [stepG, stepG.exec, Frame.atR])
theorem stepR_inScope {c : Code} : step P (lone (b.atR a (.inScope c :: k)) cs w) = .next (lone (b.atR a k) cs w) :=
  step_lone_go (by simp [stepG, stepG.exec, Frame.atR])
end

/-- What is shown of a piece of code. -/
def SimC (P : Program) (B0 : Nat) (call : CallF) (n : Nat) (c : Code) (c' : CCode) : Prop :=
  ∀ (N B : Nat) (φ : Emb) (F : Fr) (s : St) (w : World) (ts : Array Value) (ds : List Deferred) (e : Ex) (F' : Fr) (s' : St), codeC P N c c' = true → Good P B0 φ s w → FRel φ F ts → ts.size = N →
    evC call n c' F s = some (e, F', s') → Marks B w ds → B ≤ w.heap.size → ∀ (b : Frame), (b.roundOf = none ∨ noRange c' = true) →
    ∃ φ' ts' ds' w', Step P B0 φ s w φ' s' w' ∧ FRel φ' F' ts' ∧ ts'.size = N ∧ Marks B w' ds' ∧ (noRange c' = true → ds' = ds) ∧ ∀ (k : List Item) (cs : List Frame),
      Arr P (lone (b.atR ⟨ts, ds⟩ (.code c :: k)) cs w) b k cs ⟨ts', ds'⟩ w' e

section
variable {P : Program} {B0 n : Nat} {call : CallF}

theorem seqC_some {a b : Fr → St → Out} {F : Fr} {s : St} {e : Ex} {F' : Fr} {s' : St} (h : seqC a b F s = some (e, F', s')) :
    (∃ F1 s1, a F s = some (.normal, F1, s1) ∧ b F1 s1 = some (e, F', s')) ∨ (e ≠ .normal ∧ a F s = some (e, F', s')) := by
  unfold seqC at h
  split at h
  · rename_i F1 s1 e1; exact .inl ⟨F1, s1, e1, h⟩
  · rename_i i F1 s1 e1; rw [e1]; cases h; exact .inr ⟨by simp, rfl⟩
  · rename_i F1 s1 e1; rw [e1]; cases h; exact .inr ⟨by simp, rfl⟩
  · cases h

theorem sim_seq {x y : Code} {x' y' : CCode} (h1 : SimC P B0 call n x x') (h2 : SimC P B0 call n y y') : SimC P B0 call n (.seq x y) (.seq x' y') := by
  intro N B φ F s w ts ds e F' s' hc g hf hN h hm hB b hb
  simp only [codeC, Bool.and_eq_true] at hc
  have hb1 : b.roundOf = none ∨ noRange x' = true := hb.imp id fun h => by simp only [noRange, Bool.and_eq_true] at h; exact h.1
  have hb2 : b.roundOf = none ∨ noRange y' = true := hb.imp id fun h => by simp only [noRange, Bool.and_eq_true] at h; exact h.2
  replace h : seqC (evC call n x') (evC call n y') F s = some (e, F', s') := h
  rcases seqC_some h with ⟨F1, s1, e1, e2⟩ | ⟨hne, e1⟩
  · obtain ⟨φ1, ts1, ds1, w1, st1, hf1, hN1, hm1, hd1, a1⟩ := h1 N B φ F s w ts ds _ F1 s1 hc.1 g hf hN e1 hm hB b hb1
    obtain ⟨φ2, ts2, ds2, w2, st2, hf2, hN2, hm2, hd2, a2⟩ := h2 N B φ1 F1 s1 w1 ts1 ds1 _ F' s' hc.2 st1.good hf1 hN1 e2 hm1 (Nat.le_trans hB st1.tr.size) b hb2
    refine ⟨φ2, ts2, ds2, w2, st1.trans st2, hf2, hN2, hm2, fun hh => ?_, fun k cs => .of_steps (.head stepR_seq (a1 (.code y :: k) cs)) (a2 k cs)⟩
    simp only [noRange, Bool.and_eq_true] at hh
    rw [hd2 hh.2, hd1 hh.1]
  · obtain ⟨φ1, ts1, ds1, w1, st1, hf1, hN1, hm1, hd1, a1⟩ := h1 N B φ F s w ts ds _ F' s' hc.1 g hf hN e1 hm hB b hb1
    refine ⟨φ1, ts1, ds1, w1, st1, hf1, hN1, hm1, fun hh => ?_, fun k cs => .of_steps (.one stepR_seq) ((a1 (.code y :: k) cs).pass hne fun i => rfl)⟩
    simp only [noRange, Bool.and_eq_true] at hh
    exact hd1 hh.1

theorem sim_cond {o : Operand} {o' : COpd} {x y : Code} {x' y' : CCode} (h1 : SimC P B0 call n x x') (h2 : SimC P B0 call n y y') : SimC P B0 call n (.cond o x y) (.cond o' x' y') := by
  intro N B φ F s w ts ds e F' s' hc g hf hN h hm hB b hb
  simp only [codeC, Bool.and_eq_true] at hc
  obtain ⟨⟨c1, c2⟩, c3⟩ := hc
  have hb1 : b.roundOf = none ∨ noRange x' = true := hb.imp id fun h => by simp only [noRange, Bool.and_eq_true] at h; exact h.1
  have hb2 : b.roundOf = none ∨ noRange y' = true := hb.imp id fun h => by simp only [noRange, Bool.and_eq_true] at h; exact h.2
  have hv : V φ (o'.ev F) ((⟨ts, ds⟩ : Act).eval o) := opdC_V c1 fun t _ => hf t
  replace h : condC (o'.ev F) (evC call n x') (evC call n y') F s = some (e, F', s') := h
  unfold condC at h
  split at h
  · rename_i q
    rw [q] at hv
    obtain ⟨φ1, ts1, ds1, w1, st1, hf1, hN1, hm1, hd1, a1⟩ := h1 N B φ F s w ts ds _ F' s' c2 g hf hN h hm hB b hb1
    refine ⟨φ1, ts1, ds1, w1, st1, hf1, hN1, hm1, fun hh => ?_, fun k cs => .of_steps (.one (stepR_cond hv.inv_bool)) (a1 k cs)⟩
    simp only [noRange, Bool.and_eq_true] at hh
    exact hd1 hh.1
  · rename_i q
    rw [q] at hv
    obtain ⟨φ1, ts1, ds1, w1, st1, hf1, hN1, hm1, hd1, a1⟩ := h2 N B φ F s w ts ds _ F' s' c3 g hf hN h hm hB b hb2
    refine ⟨φ1, ts1, ds1, w1, st1, hf1, hN1, hm1, fun hh => ?_, fun k cs => .of_steps (.one (stepR_cond hv.inv_bool)) (a1 k cs)⟩
    simp only [noRange, Bool.and_eq_true] at hh
    exact hd1 hh.2
  · cases h

theorem sim_block {id : Nat} {x : Code} {x' : CCode} (h1 : SimC P B0 call n x x') : SimC P B0 call n (.block id x) (.block id x') := by
  intro N B φ F s w ts ds e F' s' hc g hf hN h hm hB b hb
  simp only [codeC, Bool.and_eq_true] at hc
  replace h : blockC id (evC call n x') F s = some (e, F', s') := h
  unfold blockC at h
  split at h
  · rename_i i F1 s1 e1
    obtain ⟨φ1, ts1, ds1, w1, st1, hf1, hN1, hm1, hd1, a1⟩ := h1 N B φ F s w ts ds _ F1 s1 hc.2 g hf hN e1 hm hB b hb
    cases hi : Nat.beq i id with
    | true =>
      rw [hi] at h
      have hi := Nat.eq_of_beq_eq_true hi
      subst hi
      simp only [cond_true] at h
      cases h
      refine ⟨φ1, ts1, ds1, w1, st1, hf1, hN1, hm1, hd1, fun k cs => ?_⟩
      obtain ⟨k', hk', a1⟩ := a1 (.inBlock i :: k) cs
      have hx : exitTo i k' = some k := by rw [hk']; simp [exitTo]
      exact .head stepR_block (a1.trans (.one (stepR_exit hx)))
    | false =>
      rw [hi] at h
      simp only [cond_false] at h
      cases h
      have hne : (id == i) = false := by
        have : i ≠ id := fun q => by rw [q, Nat.beq_refl] at hi; cases hi
        simpa using fun q => this q.symm
      refine ⟨φ1, ts1, ds1, w1, st1, hf1, hN1, hm1, hd1, fun k cs => ?_⟩
      obtain ⟨k', hk', a1⟩ := a1 (.inBlock id :: k) cs
      exact ⟨k', by rw [hk']; simp [exitTo, hne], .head stepR_block a1⟩
  · rename_i F1 s1 e1
    cases h
    obtain ⟨φ1, ts1, ds1, w1, st1, hf1, hN1, hm1, hd1, a1⟩ := h1 N B φ F s w ts ds _ F' s' hc.2 g hf hN e1 hm hB b hb
    exact ⟨φ1, ts1, ds1, w1, st1, hf1, hN1, hm1, hd1, fun k cs => .head stepR_block (Steps.trans (a1 (.inBlock id :: k) cs) (.one stepR_inBlock))⟩
  · rename_i F1 s1 e1
    cases h
    obtain ⟨φ1, ts1, ds1, w1, st1, hf1, hN1, hm1, hd1, a1⟩ := h1 N B φ F s w ts ds _ F' s' hc.2 g hf hN e1 hm hB b hb
    refine ⟨φ1, ts1, ds1, w1, st1, hf1, hN1, hm1, hd1, fun k cs => ?_⟩
    obtain ⟨k', a1⟩ := a1 (.inBlock id :: k) cs
    exact ⟨k', .head stepR_block a1⟩
  · cases h

theorem sim_scope {x : Code} {x' : CCode} (h1 : SimC P B0 call n x x') : SimC P B0 call n (.scope x) (.scope x') := by
  intro N B φ F s w ts ds e F' s' hc g hf hN h hm hB b hb
  obtain ⟨φ1, ts1, ds1, w1, st1, hf1, hN1, hm1, hd1, a1⟩ := h1 N B φ F s w ts ds _ F' s' hc g hf hN h hm hB b hb
  refine ⟨φ1, ts1, ds1, w1, st1, hf1, hN1, hm1, hd1, fun k cs => .of_steps (.one stepR_scope) ?_⟩
  have a1 := a1 (.inScope x :: k) cs
  cases e with
  | normal => exact Steps.trans a1 (.one stepR_inScope)
  | exit i => exact a1.pass (by simp) fun i => rfl
  | ret => exact a1

theorem sim_loop {L : List Nat} {x : Code} {x' : CCode} (h1 : SimC P B0 call n x x') : SimC P B0 call n (.loop x) (.loop L x') := by
  intro N B φ F s w ts ds e F' s' hc g hf hN h hm hB b hb
  replace h : loopC L (evC call n x') n F s = some (e, F', s') := h
  suffices key : ∀ (m : Nat) (φ : Emb) (F : Fr) (s : St) (w : World) (ts : Array Value) (ds : List Deferred), Good P B0 φ s w → FRel φ F ts → ts.size = N → Marks B w ds → B ≤ w.heap.size →
      loopC L (evC call n x') m F s = some (e, F', s') → ∃ φ' ts' ds' w', Step P B0 φ s w φ' s' w' ∧ FRel φ' F' ts' ∧ ts'.size = N ∧ Marks B w' ds' ∧ (noRange x' = true → ds' = ds) ∧ ∀ (k : List Item) (cs : List Frame),
      Arr P (lone (b.atR ⟨ts, ds⟩ (.code x :: .inLoop x :: k)) cs w) b k cs ⟨ts', ds'⟩ w' e by
    obtain ⟨φ', ts', ds', w', r1, r2, r3, r4, r5, r6⟩ := key n φ F s w ts ds g hf hN hm hB h
    exact ⟨φ', ts', ds', w', r1, r2, r3, r4, r5, fun k cs => .of_steps (.one stepR_loop) (r6 k cs)⟩
  intro m
  induction m with
  | zero => intro φ F s w ts ds g hf hN hm hB h; cases h
  | succ m ih =>
    intro φ F s w ts ds g hf hN hm hB h
    simp only [loopC] at h
    have hf' := FRel.restrict hf L
    split at h
    · rename_i F1 s1 e1
      obtain ⟨φ1, ts1, ds1, w1, st1, hf1, hN1, hm1, hd1, a1⟩ := h1 N B φ _ s w ts ds _ F1 s1 hc g hf' hN e1 hm hB b hb
      obtain ⟨φ2, ts2, ds2, w2, st2, hf2, hN2, hm2, hd2, a2⟩ := ih φ1 F1 s1 w1 ts1 ds1 st1.good hf1 hN1 hm1 (Nat.le_trans hB st1.tr.size) h
      exact ⟨φ2, ts2, ds2, w2, st1.trans st2, hf2, hN2, hm2, fun hh => by rw [hd2 hh, hd1 hh], fun k cs => .of_steps (Steps.trans (a1 (.inLoop x :: k) cs) (.one stepR_inLoop)) (a2 k cs)⟩
    · rename_i i F1 s1 e1
      cases h
      obtain ⟨φ1, ts1, ds1, w1, st1, hf1, hN1, hm1, hd1, a1⟩ := h1 N B φ _ s w ts ds _ F' s' hc g hf' hN e1 hm hB b hb
      exact ⟨φ1, ts1, ds1, w1, st1, hf1, hN1, hm1, hd1, fun k cs => (a1 (.inLoop x :: k) cs).pass (by simp) fun i => rfl⟩
    · rename_i F1 s1 e1
      cases h
      obtain ⟨φ1, ts1, ds1, w1, st1, hf1, hN1, hm1, hd1, a1⟩ := h1 N B φ _ s w ts ds _ F' s' hc g hf' hN e1 hm hB b hb
      exact ⟨φ1, ts1, ds1, w1, st1, hf1, hN1, hm1, hd1, fun k cs => a1 (.inLoop x :: k) cs⟩
    · cases h

theorem sim_regionC (hcall : HCall P B0 call) (hmix : P.follows .mixedOrders = true) {id : Nat} {ops : Array Oper} {draw : Bool} {na : Nat} {L : List Nat} {cops : List CO} :
    SimC P B0 call n (.region id ops draw) (.region na L cops) := by
  intro N B φ F s w ts ds e F' s' hc g hf hN h hm hB b hb
  have hc : regionC P N ops na cops = true := hc
  replace h : evRegion call na L cops F s = some (e, F', s') := h
  have hback := (regionC_spec hc).edges
  cases draw with
  | false =>
    obtain ⟨rfl, φ', ts', w', r1, r2, r3, r4⟩ := sim_region hcall g hf hN hc h (lin_text hback) b ds
    exact ⟨φ', ts', ds, w', r1, r2, r3, hm.kept g r1, fun _ => rfl, fun k cs => .head stepR_region (r4 k cs)⟩
  | true =>
    have hst := fun k cs => stepR_region_draw (P := P) (b := b) (a := ⟨ts, ds⟩) (k := k) (cs := cs) (w := w) (ops := ops) (id := id)
    simp only [hmix] at hst
    obtain ⟨rfl, φ', ts', w', r1, r2, r3, r4⟩ := sim_region hcall g.drew hf hN hc h (lin_schedule hback (w.tape w.drawn (.order b.fn id))) b ds
    have r1' := (Step.drew g).trans r1
    exact ⟨φ', ts', ds, w', r1', r2, r3, hm.kept g r1', fun _ => rfl, fun k cs => .head (hst k cs) (r4 k cs)⟩

theorem sim_exit {i : Nat} : SimC P B0 call n (.exit i) (.exit i) := by
  intro N B φ F s w ts ds e F' s' hc g hf hN h hm hB b hb
  replace h : some (Ex.exit i, F, s) = some (e, F', s') := h
  cases h
  exact ⟨φ, ts, ds, w, Step.refl g, hf, hN, hm, fun _ => rfl, fun k cs => ⟨k, rfl, .refl _ _⟩⟩

theorem sim_ret : SimC P B0 call n .ret .ret := by
  intro N B φ F s w ts ds e F' s' hc g hf hN h hm hB b hb
  replace h : some (Ex.ret, F, s) = some (e, F', s') := h
  cases h
  exact ⟨φ, ts, ds, w, Step.refl g, hf, hN, hm, fun _ => rfl, fun k cs => ⟨k, .refl _ _⟩⟩

theorem sim_skip : SimC P B0 call n .skip .skip := by
  intro N B φ F s w ts ds e F' s' hc g hf hN h hm hB b hb
  replace h : some (Ex.normal, F, s) = some (e, F', s') := h
  cases h
  exact ⟨φ, ts, ds, w, Step.refl g, hf, hN, hm, fun _ => rfl, fun k cs => .one stepR_skip⟩

theorem sim_label {l : Nat} : SimC P B0 call n (.label l) .skip := by
  intro N B φ F s w ts ds e F' s' hc g hf hN h hm hB b hb
  replace h : some (Ex.normal, F, s) = some (e, F', s') := h
  cases h
  exact ⟨φ, ts, ds, w, Step.refl g, hf, hN, hm, fun _ => rfl, fun k cs => .one stepR_label⟩
end
end Go.Ev

namespace Go.Ev

section
variable {P : Program} {B0 n : Nat} {call : CallF}

/-- Entering a range over a function, and what stands behind its call. -/
theorem steps_range {b : Frame} {a : Act} {k : List Item} {cs : List Frame} {w w1 w2 : World} {g : Operand} {ps : Array Tmp} {assign body : Code} {l : Nat} {mark : List Deferred} {v : Value}
    (he : (Instr.enterLoop b.fn a.tmps ps assign body b.roundOf).run P w = .ok (l, mark) w1)
    (hr : CallDo P (do let d ← Deferred.ofValue (a.eval g) ⟨[.func (.yield l) ⟨[]⟩ ⟨[]⟩]⟩; invoke d.target d.args) w1 v w2) :
    Steps P (lone (b.atR a (.code (.rangeFunc g ps assign body) :: k)) cs w) (lone (b.atR { a with defers := mark ++ a.defers } (.endRangeFunc l :: k)) cs w2) := by
  have hev := Frame.eval_atR b { a with defers := mark ++ a.defers } (.inRangeFunc l :: k)
  simp only [Frame.atR] at hev
  have hS : (do let d ← resolve ({ tmps := a.tmps, defers := mark ++ a.defers } : Act).eval { callee := .value g, args := #[.const (.func (.yield l) #[] #[])], argTypes := #[] } 0; invoke d.target d.args) =
      (do let d ← Deferred.ofValue (a.eval g) ⟨[.func (.yield l) ⟨[]⟩ ⟨[]⟩]⟩; invoke d.target d.args) := by
    have : ({ tmps := a.tmps, defers := mark ++ a.defers } : Act).eval g = a.eval g := by cases g <;> rfl
    simp [resolve, this, Act.eval]
  have hfin := finish_atR_inRangeFunc (b := b) (a := { a with defers := mark ++ a.defers }) (k := k) l v
  rcases hr with hr | ⟨f, args, w1', hr, hs⟩ | ⟨l', f, tmps, asg, bd, w1', hr, hs⟩
  · rw [← hfin]
    refine .one (step_lone_go ?_)
    simp only [stepG, stepG.exec, Frame.atR, Sem.runT_eq, he, GStep.bare_after, stepG.apply, hev, hS, hr, if_true]
    rfl
  · have henter : step P (lone (b.atR a (.code (.rangeFunc g ps assign body) :: k)) cs w) =
        .next (lone (Frame.enter P f args .normal) (b.atR { a with defers := mark ++ a.defers } (.inRangeFunc l :: k) :: cs) w1') := by
      refine step_lone_go ?_
      simp only [stepG, stepG.exec, Frame.atR, Sem.runT_eq, he, GStep.bare_after, stepG.apply, hev, hS, hr, if_true]
      rfl
    have h2 := hs (b.atR { a with defers := mark ++ a.defers } (.inRangeFunc l :: k)) cs
    rw [hfin] at h2
    exact .head henter h2
  · have henter : step P (lone (b.atR a (.code (.rangeFunc g ps assign body) :: k)) cs w) =
        .next (lone (Frame.round l' f tmps asg bd .normal) (b.atR { a with defers := mark ++ a.defers } (.inRangeFunc l :: k) :: cs) w1') := by
      refine step_lone_go ?_
      simp only [stepG, stepG.exec, Frame.atR, Sem.runT_eq, he, GStep.bare_after, stepG.apply, hev, hS, hr, if_true]
      rfl
    have h2 := hs (b.atR { a with defers := mark ++ a.defers } (.inRangeFunc l :: k)) cs
    rw [hfin] at h2
    exact .head henter h2

theorem run_enter {w : World} {fn : FuncId} {ts : Array Value} {ps : Array Tmp} {as bd : Code} :
    (Instr.enterLoop fn ts ps as bd none).run P w = .ok (w.heap.size + 1, [markOf w.heap.size])
      (push (push w (.deferred (some []))) (.loop { state := .ready, pending := none, fn, tmps := ts, params := ps, assign := as, body := bd, defers := w.heap.size })) := by
  simp [Instr.enterLoop, newObj, push, markOf, Sem.run]
  rfl

theorem run_endLoop {w : World} {l : Nat} {L : Loop} (h : w.heap[l]? = some (.loop L)) (hs : L.state ≠ .busy) :
    (Instr.endLoop l).run P w = .ok L.pending (setB w l (.loop { L with state := .exhausted })) := by
  have hb : (L.state == LoopState.busy) = false := by simpa using hs
  have hg : (getObj l).run P w = .ok (.loop L) w := run_getObj h (fun c e f => by simp)
  simp [Instr.endLoop, Instr.getLoop, hg, hs, setObj, Sem.run, h, setB]

theorem sim_rangeFunc (hcall : HCall P B0 call) {f : Operand} {ps : Array Tmp} {as bd : Code} {f' : COpd} {ps' : List Nat} {as' bd' : CCode} :
    SimC P B0 call n (.rangeFunc f ps as bd) (.rangeFunc f' ps' as' bd') := by
  intro N B φ F s w ts ds e F' s' hc g hf hN h hm hB b hb
  simp only [codeC, Bool.and_eq_true] at hc
  obtain ⟨⟨⟨⟨⟨⟨c1, c2⟩, c3⟩, c4⟩, c5⟩, c6⟩, c7⟩ := hc
  have hro : b.roundOf = none := by
    rcases hb with h | h
    · exact h
    · cases h
  have c2 : ps.toList = ps' := by simpa using c2
  replace h : rangeC call (f'.ev F) ps' as' bd' F s = some (e, F', s') := h
  unfold rangeC at h
  simp only [bumpK_eq, putK_eq] at h
  have hVf : V φ (f'.ev F) ((⟨ts, ds⟩ : Act).eval f) := opdC_V c1 fun t _ => hf t
  have j1 := Step.junk g (.deferred (some []))
  have hn : φ.blk s.next = none := (g.fresh _ (Nat.le_refl _)).1
  have hext := Emb.add_ext hn (push w (.deferred (some []))).heap.size 0 0
  have j2 := Step.new j1.good (sz := 0) (o := .loop { F, params := ps', assign := as', body := bd', state := .ready, pending := none })
    (co := .loop { state := .ready, pending := none, fn := b.fn, tmps := ts, params := ps, assign := as, body := bd, defers := w.heap.size })
    ⟨_, rfl, c2, fun t ht => by
      rw [List.all_eq_true] at c3
      have := Nat.le_of_ble_eq_true (c3 t ht)
      show t < ts.size
      omega, hf.mono hext, by rw [show (Loop.tmps _) = ts from rfl, hN]; exact c6, by rw [show (Loop.tmps _) = ts from rfl, hN]; exact c7, c4, c5, rfl, trivial⟩
  have hsz : (push w (.deferred (some []))).heap.size = w.heap.size + 1 := push_size _ _
  rw [hsz] at j2 hext
  split at h
  · rename_i v s2 hq
    obtain ⟨φ2, w2, v2, st2, _, hdo⟩ := hcall (φ.add s.next (w.heap.size + 1) 0 0) _ _ _ ((⟨ts, ds⟩ : Act).eval f) _ [.func (.yield (w.heap.size + 1)) ⟨[]⟩ ⟨[]⟩] _ _ j2.good (hVf.mono hext)
      (VL.cons (.yield (δ := 0) (sz := 0) (by simp [Emb.add])) (VL.nil _)) hq
    have hbl : φ2.blk s.next = some (w.heap.size + 1, 0, 0) := st2.tr.ext.blk _ _ (by simp [Emb.add])
    split at h
    · rename_i r hr
      have hO := st2.good.rel.obj _ _ _ _ hbl
      rw [hr] at hO
      obtain ⟨L, hL, hLR⟩ := hO
      have hnb : r.state ≠ .busy := by
        intro hb
        rw [hb] at h
        cases h
      have hfin : (match r.pending with
          | none => some (Ex.normal, F, s2.put s.next .dead)
          | some e => some (e, F, s2.put s.next .dead)) = some (e, F', s') := by
        cases hst : r.state with
        | busy => exact absurd hst hnb
        | ready => rw [hst] at h; exact h
        | done => rw [hst] at h; exact h
        | exhausted => rw [hst] at h; exact h
      have hwm : s2.wm ≤ s.next := by
        have h1 := st2.wm
        have h2 : ((s.bump 1).put s.next (.loop { F, params := ps', assign := as', body := bd', state := .ready, pending := none })).wm = s.wm := rfl
        have := g.wm
        omega
      have st3 := Step.put st2.good hbl (by rw [hr]; rfl) hwm (o := .dead) (co := .loop { L with state := .exhausted }) trivial
      have hend := run_endLoop (P := P) hL (by rw [hLR.state]; exact hnb)
      generalize setB w2 (w.heap.size + 1) (Obj.loop { L with state := .exhausted }) = w4 at st3 hend
      have hent := run_enter (P := P) (w := w) (fn := b.fn) (ts := ts) (ps := ps) (as := as) (bd := bd)
      rw [← hro] at hent
      have hsteps := fun k cs => steps_range (b := b) (a := ⟨ts, ds⟩) (k := k) (cs := cs) (mark := [markOf w.heap.size]) hent hdo
      have hsteps2 := fun k cs => (hsteps k cs).trans (.one (stepR_endRangeFunc hend))
      have stall := (j1.trans j2).trans (st2.trans st3)
      have hm1 : Marks B (push w (.deferred (some []))) (markOf w.heap.size :: ds) := hm.push hB
      have hm2 := (hm1.kept j1.good (j2.trans (st2.trans st3)))
      have hf2 : FRel φ2 F ts := hf.mono (hext.trans st2.tr.ext)
      have hp := hLR.pending
      cases hrp : r.pending with
      | none =>
        rw [hrp] at hfin hp
        cases hfin
        have hLp : L.pending = none := by
          cases hh : L.pending with
          | none => rfl
          | some c => rw [hh] at hp; cases c <;> cases hp
        simp only [hLp] at hsteps2
        exact ⟨φ2, ts, _, _, stall, hf2, hN, hm2, (fun hh => by cases hh), fun k cs => hsteps2 k cs⟩
      | some ex =>
        rw [hrp] at hfin hp
        cases hfin
        cases hh : L.pending with
        | none => rw [hh] at hp; cases e <;> cases hp
        | some c =>
          rw [hh] at hp
          simp only [hh] at hsteps2
          cases c <;> cases e <;> try (cases hp; done)
          · rename_i i j
            have hp : i = j := hp
            subst hp
            exact ⟨φ2, ts, _, _, stall, hf2, hN, hm2, (fun hh => by cases hh), fun k cs => ⟨k, rfl, hsteps2 k cs⟩⟩
          · exact ⟨φ2, ts, _, _, stall, hf2, hN, hm2, (fun hh => by cases hh), fun k cs => ⟨k, hsteps2 k cs⟩⟩
    · cases h
  · cases h

theorem SimC.off {c : Code} {c' : CCode} (h : ∀ N, codeC P N c c' = false) : SimC P B0 call n c c' := by
  intro N B φ F s w ts ds e F' s' hc
  rw [h N] at hc
  cases hc

/-- All code. -/
theorem sim_code (hcall : HCall P B0 call) (hmix : P.follows .mixedOrders = true) : ∀ (c' : CCode) (c : Code), SimC P B0 call n c c' := by
  intro c'
  induction c' with
  | skip =>
    intro c
    cases c
    case skip => exact sim_skip
    case label l => exact sim_label
    all_goals exact SimC.off fun N => rfl
  | region na L cops =>
    intro c
    cases c
    case region id ops draw => exact sim_regionC hcall hmix
    all_goals exact SimC.off fun N => rfl
  | seq a b iha ihb =>
    intro c
    cases c
    case seq x y => exact sim_seq (iha x) (ihb y)
    all_goals exact SimC.off fun N => rfl
  | cond o x y ihx ihy =>
    intro c
    cases c
    case cond o' x' y' => exact sim_cond (ihx x') (ihy y')
    all_goals exact SimC.off fun N => rfl
  | block id x ih =>
    intro c
    cases c
    case block id' x' =>
      intro N B φ F s w ts ds e F' s' hc
      have hid : id' = id := by
        simp only [codeC, Bool.and_eq_true] at hc
        exact Nat.eq_of_beq_eq_true hc.1
      subst hid
      exact sim_block (ih x') N B φ F s w ts ds e F' s' hc
    all_goals exact SimC.off fun N => rfl
  | loop L x ih =>
    intro c
    cases c
    case loop x' => exact sim_loop (ih x')
    all_goals exact SimC.off fun N => rfl
  | rangeFunc f ps as bd iha ihb =>
    intro c
    cases c
    case rangeFunc f' ps' as' bd' => exact sim_rangeFunc hcall
    all_goals exact SimC.off fun N => rfl
  | exit i =>
    intro c
    cases c
    case exit i' =>
      intro N B φ F s w ts ds e F' s' hc
      have hid : i' = i := Nat.eq_of_beq_eq_true hc
      subst hid
      exact sim_exit N B φ F s w ts ds e F' s' hc
    all_goals exact SimC.off fun N => rfl
  | scope x ih =>
    intro c
    cases c
    case scope x' => exact sim_scope (ih x')
    all_goals exact SimC.off fun N => rfl
  | ret =>
    intro c
    cases c
    case ret => exact sim_ret
    all_goals exact SimC.off fun N => rfl
end
end Go.Ev

namespace Go.Ev

section
variable {P : Program} {B0 n : Nat} {call : CallF} {φ : Emb} {s : St} {w : World} {F : Fr} {ts : Array Value} {H : Get}

/-! ### Results -/
theorem run_loadVar1 {t : TypeId} {p q v : Value} (r : Rel P B0 φ H w) (ht : aggIs P t false = true) (h : opLoad1 H p = some v) (hp : V φ p q) :
    ∃ v', (do loadVar t (← asAddr q) : Sem Value).run P w = .ok v' w ∧ V φ v v' := by
  simp only [opLoad1] at h
  split at h
  · rename_i u e
    simp only [Option.some.injEq] at h; subst h
    obtain ⟨b, o, cc, el, fz, q1, q2, q3, q4⟩ := loadV_some r e hp
    have hcell := cell_of (w := w) q2 (show o < cc.size by omega)
    refine ⟨cc.getD o undf, ?_, ?_⟩
    · simp only [q1, asAddr, loadVar, Sem.run_bind, Sem.run_pure, run_isAgg ht, Result.andThen_ok, Bool.false_eq_true, if_false, run_load hcell]
    · have := q4.2 0 (by simp)
      simpa using this
  · cases h

theorem run_loadVarN {t : TypeId} {n : Nat} {p q v : Value} (r : Rel P B0 φ H w) (ht : aggIs P t true = true) (hs : sizeIs P t n = true) (h : opLoadN H n p = some v) (hp : V φ p q) :
    ∃ v', (do loadVar t (← asAddr q) : Sem Value).run P w = .ok v' w ∧ V φ v v' := by
  simp only [opLoadN] at h
  obtain ⟨vs, e, rfl⟩ := Option.map_eq_some_iff.1 h
  obtain ⟨b, o, cc, el, fz, q1, q2, q3, q4⟩ := loadV_some r e hp
  refine ⟨_, ?_, .agg' q4⟩
  simp [q1, asAddr, loadVar, run_isAgg ht, run_sizeOf hs, run_loadCells q2 q3]

def resOne (ts : Array Value) : ResultVar → Sem Value
  | .tmp t => pure (ts.getD t undef)
  | .cell a t => do loadVar t (← asAddr (ts.getD a undef))

theorem results_eq (fn : Func) (ts : Array Value) : results fn ts = (do
    let vs ← fn.results.mapM (resOne ts)
    pure (if h : vs.size = 1 then vs[0] else .tuple vs)) := by
  unfold results
  congr 2

theorem run_resultsL (r : Rel P B0 φ s.get w) (hf : FRel φ F ts) : ∀ {rs : List ResultVar} {cs : List CRes} {vs : List Value}, resC P rs cs = true → resVals F s cs = some vs →
    ∃ vs', (rs.mapM (resOne ts)).run P w = .ok vs' w ∧ VL φ vs vs'
  | [], [], vs, _, h => by
    simp only [resVals, Option.some.injEq] at h
    subst h
    exact ⟨[], by simp, VL.nil φ⟩
  | [], _ :: _, _, hc, _ => by simp [resC] at hc
  | _ :: _, [], _, hc, _ => by rename_i x _ ; cases x <;> simp [resC] at hc
  | .tmp t :: rs, c :: cs, vs, hc, h => by
    cases c <;> simp only [resC] at hc <;> try (cases hc; done)
    rename_i t'
    simp only [Bool.and_eq_true] at hc
    have := Nat.eq_of_beq_eq_true hc.1
    subst this
    simp only [resVals] at h
    obtain ⟨vs1, h1, rfl⟩ := Option.map_eq_some_iff.1 h
    obtain ⟨vs', r1, r2⟩ := run_resultsL r hf hc.2 h1
    refine ⟨ts.getD t undef :: vs', ?_, VL.cons (hf t) r2⟩
    have r3 : (resOne ts (.tmp t)).run P w = .ok (ts.getD t undef) w := rfl
    simp only [List.mapM_cons, Sem.run_bind, r1, r3, Result.andThen_ok, Sem.run_pure]
  | .cell a t :: rs, c :: cs, vs, hc, h => by
    cases c with
    | tmp t' => simp [resC] at hc
    | cell1 a' =>
      simp only [resC, Bool.and_eq_true] at hc
      have := Nat.eq_of_beq_eq_true hc.1.1
      subst this
      simp only [resVals] at h
      obtain ⟨v, h0, h⟩ := Option.bind_eq_some_iff.1 h
      obtain ⟨vs1, h1, rfl⟩ := Option.map_eq_some_iff.1 h
      obtain ⟨vs', r1, r2⟩ := run_resultsL r hf hc.2 h1
      obtain ⟨v', r3, r4⟩ := run_loadVar1 r hc.1.2 h0 (hf a)
      refine ⟨v' :: vs', ?_, VL.cons r4 r2⟩
      have r5 : (resOne ts (.cell a t)).run P w = .ok v' w := r3
      simp only [List.mapM_cons, Sem.run_bind, r1, r5, Result.andThen_ok, Sem.run_pure]
    | cellN a' n =>
      simp only [resC, Bool.and_eq_true] at hc
      have := Nat.eq_of_beq_eq_true hc.1.1.1
      subst this
      simp only [resVals] at h
      obtain ⟨v, h0, h⟩ := Option.bind_eq_some_iff.1 h
      obtain ⟨vs1, h1, rfl⟩ := Option.map_eq_some_iff.1 h
      obtain ⟨vs', r1, r2⟩ := run_resultsL r hf hc.2 h1
      obtain ⟨v', r3, r4⟩ := run_loadVarN r hc.1.1.2 hc.1.2 h0 (hf a)
      refine ⟨v' :: vs', ?_, VL.cons r4 r2⟩
      have r5 : (resOne ts (.cell a t)).run P w = .ok v' w := r3
      simp only [List.mapM_cons, Sem.run_bind, r1, r5, Result.andThen_ok, Sem.run_pure]

theorem run_results (r : Rel P B0 φ s.get w) (hf : FRel φ F ts) {fn : Func} {cs : List CRes} {vs : List Value} (hc : resC P fn.results.toList cs = true) (h : resVals F s cs = some vs) :
    ∃ v', (results fn ts).run P w = .ok v' w ∧ V φ (resVal vs) v' := by
  obtain ⟨vs', r1, r2⟩ := run_resultsL r hf hc h
  have hrun : (results fn ts).run P w = .ok (if h : vs'.length = 1 then vs'[0] else .tuple ⟨vs'⟩) w := by
    rw [results_eq, Array.mapM_eq_mapM_toList]
    simp [Sem.run_bind, r1]
  refine ⟨_, hrun, ?_⟩
  have hl := r2.1
  match vs, vs', r2, hl with
  | [], [], r2, _ => exact .tuple' r2
  | [x], [y], r2, _ => simpa [resVal] using r2.2 0 (by simp)
  | x :: y :: l, x' :: y' :: l', r2, _ => simpa [resVal] using V.tuple' r2

/-! ### Frames -/
theorem argFr_app : ∀ (args : List Value) (i t : Nat), argFr args i t = if i ≤ t then args.getD (t - i) undf else undf
  | [], i, t => by simp [argFr]
  | v :: vs, i, t => by
    simp only [argFr, upd_app]
    by_cases h : t = i
    · subst h; simp
    · rw [if_neg h, argFr_app vs (i + 1) t]
      by_cases h2 : i ≤ t
      · rw [if_pos h2, if_pos (by omega)]
        have : t - i = (t - (i + 1)) + 1 := by omega
        rw [this]
        simp
      · rw [if_neg h2, if_neg (by omega)]

theorem argFr_rel {args args' : List Value} {m : Nat} (h : VL φ args args') : FRel φ (argFr args 0) (⟨args'⟩ ++ Array.replicate m undef) := by
  intro t
  rw [argFr_app]
  simp only [Nat.zero_le, if_true, Nat.sub_zero]
  by_cases ht : t < args.length
  · have := h.2 t ht
    have ht' : t < args'.length := h.1 ▸ ht
    have e : ((⟨args'⟩ : Array Value) ++ Array.replicate m undef).getD t undf = args'.getD t undf := by
      simp [Array.getD_eq_getD_getElem?, Array.getElem?_append, ht', List.getD]
    rw [e]
    exact this
  · have ht' : ¬ t < args'.length := h.1 ▸ ht
    have e1 : args.getD t undf = undf := by simp [List.getD, List.getElem?_eq_none (Nat.le_of_not_lt ht)]
    have e2 : ((⟨args'⟩ : Array Value) ++ Array.replicate m undef).getD t undf = undf := by
      simp only [Array.getD_eq_getD_getElem?, Array.getElem?_append, List.size_toArray, ht', if_false, Array.getElem?_replicate]
      split <;> rfl
    rw [e1, e2]
    exact .tuple' (VL.nil φ)

/-- The marks are taken: each block is shut. -/
theorem steps_marks {φ0 : Emb} {s0 : St} {w0 : World} : ∀ (rs : List Nat) (w : World), Step P B0 φ0 s0 w0 φ s w → rs.Nodup →
    (∀ r ∈ rs, w0.heap.size ≤ r ∧ w.heap[r]? = some (.deferred (some []))) →
    ∃ w', Step P B0 φ0 s0 w0 φ s w' ∧ ∀ (fr : Frame) (cs : List Frame), fr.mode = .returning → fr.defers = rs.map markOf → Steps P (lone fr cs w) (lone { fr with defers := [] } cs w')
  | [], w, st, _, _ => by
    refine ⟨w, st, fun fr cs hm hd => ?_⟩
    have : fr = { fr with defers := [] } := by rw [← (show fr.defers = [] from hd)]
    rw [← this]
    exact .refl _ _
  | r :: rs, w, st, hn, hh => by
    obtain ⟨h1, h2⟩ := hh r List.mem_cons_self
    have hg : (getObj r).run P w = .ok (.deferred (some [])) w := run_getObj h2 (fun c e f => by simp)
    have hk : (Instr.takeDeferred r).run P w = .ok [] (setB w r (.deferred none)) := by
      simp [Instr.takeDeferred, hg, setObj, Sem.run, h2, setB]
    have st1 := st.take h2 h1
    obtain ⟨hnr, hnd⟩ := List.nodup_cons.1 hn
    obtain ⟨w', st', s2⟩ := steps_marks rs _ st1 hnd (fun q hq => by
      obtain ⟨h3, h4⟩ := hh q (List.mem_cons_of_mem _ hq)
      refine ⟨h3, ?_⟩
      rw [setB_ne _ _ _ (by rintro rfl; exact hnr hq)]
      exact h4)
    refine ⟨w', st', fun fr cs hm hd => ?_⟩
    have s1 := step_collected (cs := cs) (by rw [hm]; simp) hd rfl hk
    exact .head s1 (s2 { fr with defers := [] ++ rs.map markOf } cs hm rfl)

/-- A function's body, from its frame to its result. -/
theorem sim_fn (hcall : HCall P B0 call) (hmix : P.follows .mixedOrders = true) {fid : FuncId} {fn : Func} {cf : CFunc} {args args' : List Value} {v : Value} {s' : St} (hfn : P.funcs[fid]? = some fn)
    (hc : funcC P fn cf = true) (g : Good P B0 φ s w) (ha : VL φ args args') (hl : args.length ≤ cf.ntmps) (h : finish cf.results (evC call n cf.body (argFr args 0) s) = some (v, s')) :
    ∃ φ' w' v', Step P B0 φ s w φ' s' w' ∧ V φ' v v' ∧ ∀ cs, ∃ fr, Steps P (lone (Frame.enter P fid ⟨args'⟩ .normal) cs w) (lone fr cs w') ∧ fr.fn = fid ∧ fr.leaving P w' (.returned v') := by
  unfold funcC at hc
  simp only [Bool.and_eq_true] at hc
  obtain ⟨⟨⟨c1, c2⟩, _⟩, c4⟩ := hc
  have c1 := Nat.eq_of_beq_eq_true c1
  split at c4
  · rename_i c hb
    let b : Frame := { (default : Frame) with fn := fid, kind := .normal, roundOf := none }
    have henter : Frame.enter P fid ⟨args'⟩ .normal = b.atR ⟨⟨args'⟩ ++ Array.replicate (fn.ntmps - args'.length) undef, []⟩ [.code c] := by
      simp [Frame.enter, Frame.atR, hfn, hb, b]
    have hla := ha.1
    have hsz : ((⟨args'⟩ : Array Value) ++ Array.replicate (fn.ntmps - args'.length) undef).size = fn.ntmps := by
      simp
      omega
    unfold finish at h
    have main : ∀ (e : Ex) (F' : Fr) (s1 : St), (e = .normal ∨ e = .ret) → evC call n cf.body (argFr args 0) s = some (e, F', s1) → ∀ vs, resVals F' s1 cf.results = some vs →
        ∃ φ' w' v', Step P B0 φ s w φ' s1 w' ∧ V φ' (resVal vs) v' ∧ ∀ cs, ∃ fr, Steps P (lone (Frame.enter P fid ⟨args'⟩ .normal) cs w) (lone fr cs w') ∧ fr.fn = fid ∧ fr.leaving P w' (.returned v') := by
      intro e F' s1 he hev vs hvs
      obtain ⟨φ1, ts1, ds1, w1, st1, hf1, hN1, hm1, _, a1⟩ := sim_code (n := n) hcall hmix cf.body c fn.ntmps w.heap.size φ (argFr args 0) s w _ [] e F' s1 c4 g (argFr_rel ha) hsz hev (Marks.nil _ _) (Nat.le_refl _) b (.inl rfl)
      obtain ⟨rs, rfl, hnd, hh⟩ := hm1.ex
      obtain ⟨w2, st2, s2⟩ := steps_marks rs w1 st1 hnd hh
      obtain ⟨v', r1, r2⟩ := run_results (fn := fn) st2.good.rel hf1 c2 hvs
      refine ⟨φ1, w2, v', st2, r2, fun cs => ?_⟩
      have a1 := a1 [] cs
      rw [← henter] at a1
      rcases he with rfl | rfl
      · have s3 := s2 { b.atR ⟨ts1, rs.map markOf⟩ [] with mode := .returning } cs rfl rfl
        exact ⟨_, (Steps.trans a1 (.one (stepR_end rfl))).trans s3, rfl, rfl, rfl, rfl, fn, hfn, r1⟩
      · obtain ⟨k', a1⟩ := a1
        have s3 := s2 { b.atR ⟨ts1, rs.map markOf⟩ (.code .ret :: k') with mode := .returning } cs rfl rfl
        exact ⟨_, (Steps.trans a1 (.one (stepR_ret rfl))).trans s3, rfl, rfl, rfl, rfl, fn, hfn, r1⟩
    split at h
    · rename_i F' s1 hev
      split at h
      · rename_i vs hvs
        rw [fVal_eq] at h
        cases h
        exact main .normal _ _ (.inl rfl) hev _ hvs
      · cases h
    · rename_i F' s1 hev
      split at h
      · rename_i vs hvs
        rw [fVal_eq] at h
        cases h
        exact main .ret _ _ (.inr rfl) hev _ hvs
      · cases h
    · cases h
  · cases c4
end
end Go.Ev

namespace Go.Ev

section
variable {P : Program} {B0 : Nat} {φ φ1 : Emb} {s s1 : St} {w w1 : World}

/-- What a pure call leaves: the caller's blocks; every new row of the world's is laid down for good. -/
def Emb.lay (φ : Emb) (w w1 : World) : Emb := ⟨φ.blk, fun b => if b < w.heap.size then φ.im b else match w1.heap[b]? with
  | some (.cells cc _ _) => some cc
  | _ => none⟩

theorem Good.callee (g : Good P B0 φ s w) : Good P B0 φ ⟨s.next, s.next, s.heap⟩ w := ⟨g.rel, g.fresh, Nat.le_refl _, g.B0⟩

theorem lay_im (g : Good P B0 φ s w) (st : Step P B0 φ ⟨s.next, s.next, s.heap⟩ w φ1 s1 w1) {b : Nat} {cc : Array Value} (h : φ1.im b = some cc) : (φ.lay w w1).im b = some cc := by
  unfold Emb.lay
  dsimp only
  rcases st.tr.newim b cc h with h1 | h1
  · obtain ⟨el, fz, h2⟩ := g.rel.imo b cc h1
    rw [if_pos (Array.getElem?_eq_some_iff.1 h2).1]
    exact h1
  · obtain ⟨el, fz, h2⟩ := st.good.rel.imo b cc h
    rw [if_neg (by omega), h2]

theorem lay_blk (st : Step P B0 φ ⟨s.next, s.next, s.heap⟩ w φ1 s1 w1) {i : Nat} {x : Nat × Nat × Nat} (hi : i < s.next) (h : φ1.blk i = some x) : (φ.lay w w1).blk i = some x := by
  show φ.blk i = some x
  cases hh : φ.blk i with
  | none => rw [(st.unborn i hi hh).1] at h; cases h
  | some y => rw [st.tr.ext.blk i y hh] at h; exact h

theorem lay_step (g : Good P B0 φ s w) (st : Step P B0 φ ⟨s.next, s.next, s.heap⟩ w φ1 s1 w1) : Step P B0 φ s w (φ.lay w w1) s w1 := by
  have keep : ∀ b, b < w.heap.size → w1.heap[b]? = w.heap[b]? := fun b hb => st.tr.keep b hb fun i x hi e => by
    rw [(g.fresh i hi).1] at e; cases e
  have hlt : ∀ {b : Nat} {o : Obj}, w.heap[b]? = some o → b < w.heap.size := fun h => (Array.getElem?_eq_some_iff.1 h).1
  have hext : Ext φ (φ.lay w w1) := ⟨fun i x e => e, fun b cc e => by
    obtain ⟨el, fz, h2⟩ := g.rel.imo b cc e
    show (if b < w.heap.size then φ.im b else _) = some cc
    rw [if_pos (hlt h2)]
    exact e⟩
  refine ⟨⟨⟨fun i b δ sz e => ?_, fun i b δ sz e => ?_, g.rel.sep, g.rel.base, fun b cc e => ?_, fun i b x e h => ?_⟩, g.fresh, g.wm, Nat.le_trans g.B0 st.tr.size⟩,
    ⟨hext, st.tr.os, st.tr.tape, st.tr.output, st.tr.size, fun b hb _ => keep b hb, fun i b x hi e h => .inr ⟨i, x, hi, e, h⟩, fun b cc e => ?_, st.tr.ice⟩, rfl, Nat.le_refl _, fun _ _ => rfl, fun _ _ h => h, fun _ _ h => ⟨h, rfl⟩⟩
  · exact Nat.lt_of_lt_of_le (g.rel.lt i b δ sz e) st.tr.size
  · rw [keep b (g.rel.lt i b δ sz e)]
    exact (g.rel.obj i b δ sz e).mono hext
  · replace e : (if b < w.heap.size then φ.im b else match w1.heap[b]? with
      | some (.cells cc _ _) => some cc
      | _ => none) = some cc := e
    split at e
    · rename_i hb
      rw [keep b hb]
      exact g.rel.imo b cc e
    · split at e
      · rename_i c el fz h2
        cases e
        exact ⟨el, fz, h2⟩
      · cases e
  · show (if b < w.heap.size then φ.im b else _) = none
    rw [if_pos (g.rel.lt i b x.1 x.2 e)]
    exact g.rel.imsep i b x e h
  · replace e : (if b < w.heap.size then φ.im b else match w1.heap[b]? with
      | some (.cells cc _ _) => some cc
      | _ => none) = some cc := e
    split at e
    · exact .inl e
    · exact .inr (by omega)

theorem flat_one : ∀ {c : List Value}, (∀ v ∈ c, oneCell v = true) → ∀ {n : Nat}, c.length = n → chunk 1 c n = some c
  | [], _, n, h => by
    subst h; rfl
  | v :: c, h, n, hn => by
    cases n with
    | zero => simp at hn
    | succ n =>
      have ih := flat_one (c := c) (fun u hu => h u (List.mem_cons_of_mem _ hu)) (n := n) (by simpa using hn)
      simp [chunk, take?, drop?, ih]

theorem vcells_one {v : Value} (h : oneCell v = true) : vcells v = [v] := by
  cases v <;> first | rfl | cases h

theorem chunk_flat {z : Nat} (hz : 1 ≤ z) : ∀ (n : Nat) {c es : List Value}, (∀ v ∈ c, oneCell v = true) → chunk z c n = some es → c.length = n * z → es.flatMap vcells = c ∧ ∀ e ∈ es, (vcells e).length = z
  | 0, c, es, hc, h, hl => by
    simp only [chunk, Option.some.injEq] at h
    subst h
    have : c = [] := List.eq_nil_of_length_eq_zero (by omega)
    subst this
    exact ⟨rfl, fun e he => by cases he⟩
  | n + 1, c, es, hc, h, hl => by
    simp only [chunk] at h
    obtain ⟨e, h1, h⟩ := Option.bind_eq_some_iff.1 h
    obtain ⟨r, h2, h⟩ := Option.bind_eq_some_iff.1 h
    obtain ⟨l, h3, rfl⟩ := Option.map_eq_some_iff.1 h
    rw [take?_eq] at h1
    rw [drop?_eq] at h2
    have hle : z ≤ c.length := by rw [hl, Nat.add_mul]; omega
    rw [if_pos hle] at h1 h2
    cases h1
    cases h2
    have hlr : (c.drop z).length = n * z := by rw [List.length_drop, hl, Nat.add_mul]; omega
    obtain ⟨i1, i2⟩ := chunk_flat hz n (fun v hv => hc v (List.mem_of_mem_drop hv)) h3 hlr
    have hlt : (c.take z).length = z := by rw [List.length_take]; omega
    have hhead : vcells (bif Nat.beq z 1 then (c.take z).headD unk else .agg ⟨c.take z⟩) = c.take z := by
      cases hb : Nat.beq z 1 with
      | false => rfl
      | true =>
        have := Nat.eq_of_beq_eq_true hb
        subst this
        simp only [cond_true]
        cases hc' : c.take 1 with
        | nil => rw [hc'] at hlt; cases hlt
        | cons v r =>
          rw [hc'] at hlt
          have : r = [] := List.eq_nil_of_length_eq_zero (by simpa using hlt)
          subst this
          refine vcells_one (hc v ?_)
          have : v ∈ c.take 1 := by rw [hc']; exact List.mem_cons_self
          exact List.mem_of_mem_take this
    refine ⟨?_, fun x hx => ?_⟩
    · rw [List.flatMap_cons, hhead, i1, List.take_append_drop]
    · rcases List.mem_cons.1 hx with rfl | hx
      · rw [hhead, hlt]
      · exact i2 x hx

theorem settle_agg {g : Get} {base f : Nat} {e : Value} {l : Array Value} (h : settle g base f e = some (.agg l)) : ∃ l0, e = .agg ⟨l0⟩ := by
  cases f with
  | zero => cases h
  | succ f =>
    unfold settle at h
    split at h <;> try (cases h; done)
    · obtain ⟨_, hq⟩ := bif_some h
      cases hq
    · rename_i b o n z
      cases hb : Nat.ble (b + 1) base with
      | true => rw [hb] at h; cases h
      | false =>
        rw [hb] at h
        simp only [cond_false] at h
        obtain ⟨c, _, h⟩ := Option.bind_eq_some_iff.1 h
        obtain ⟨_, hq⟩ := bif_some h
        obtain ⟨es, _, h⟩ := Option.bind_eq_some_iff.1 hq
        obtain ⟨es', _, h4⟩ := Option.bind_eq_some_iff.1 h
        obtain ⟨_, hq2⟩ := bif_some h4
        cases hq2
    · obtain ⟨es', _, h4⟩ := Option.bind_eq_some_iff.1 h
      obtain ⟨_, hq2⟩ := bif_some h4
      cases hq2
    · exact ⟨_, rfl⟩
    · obtain ⟨_, _, h5⟩ := Option.map_eq_some_iff.1 h
      cases h5

theorem settle_V (g : Good P B0 φ s w) (st : Step P B0 φ ⟨s.next, s.next, s.heap⟩ w φ1 s1 w1) : ∀ (f : Nat) {v y v' : Value}, V φ1 v y → settle s1.get s.next f v = some v' → V (φ.lay w w1) v' y
  | 0, v, y, v', _, h => by cases h
  | f + 1, v, y, v', hv, h => by
    have ih : ∀ {v y v' : Value}, V φ1 v y → settle s1.get s.next f v = some v' → V (φ.lay w w1) v' y := fun a b => settle_V g st f a b
    have ihL : ∀ {xs ys xs' : List Value}, VL φ1 xs ys → settleL (settle s1.get s.next f) xs = some xs' → VL (φ.lay w w1) xs' ys := by
      intro xs
      induction xs with
      | nil =>
        intro ys xs' hl h
        simp only [settleL, Option.some.injEq] at h
        subst h
        rw [hl.inv_nil]
        exact VL.nil _
      | cons x xs ihx =>
        intro ys xs' hl h
        simp only [settleL] at h
        obtain ⟨x', h1, h⟩ := Option.bind_eq_some_iff.1 h
        obtain ⟨l, h2, rfl⟩ := Option.map_eq_some_iff.1 h
        obtain ⟨y, ys', rfl, hv, hl'⟩ := hl.inv_cons
        exact VL.cons (ih hv h1) (ihx hl' h2)
    -- elements
    have ihE : ∀ {z : Nat} {es es' C : List Value}, (∀ e ∈ es, (vcells e).length = z) → VL φ1 (es.flatMap vcells) C → settleL (settle s1.get s.next f) es = some es' → (∀ e ∈ es', (vcells e).length = z) →
        VL (φ.lay w w1) (es'.flatMap vcells) C ∧ es'.length = es.length := by
      intro z es
      induction es with
      | nil =>
        intro es' C _ hl h _
        simp only [settleL, Option.some.injEq] at h
        subst h
        rw [hl.inv_nil]
        exact ⟨VL.nil _, rfl⟩
      | cons e es ihx =>
        intro es' C h1 hl h h2
        simp only [settleL] at h
        obtain ⟨e', h3, h⟩ := Option.bind_eq_some_iff.1 h
        obtain ⟨l, h4, rfl⟩ := Option.map_eq_some_iff.1 h
        rw [List.flatMap_cons] at hl ⊢
        have hlen := h1 e List.mem_cons_self
        have hc1 : VL φ1 (vcells e) (C.take z) := by
          have := hl.take z
          rwa [List.take_left' hlen] at this
        have hc2 : VL φ1 (es.flatMap vcells) (C.drop z) := by
          have := hl.drop z
          rwa [List.drop_left' hlen] at this
        obtain ⟨i1, i2⟩ := ihx (fun e he => h1 e (List.mem_cons_of_mem _ he)) hc2 h4 (fun e he => h2 e (List.mem_cons_of_mem _ he))
        refine ⟨?_, by simp [i2]⟩
        rw [← List.take_append_drop z C]
        refine VL.append ?_ i1
        have hlen' := h2 e' List.mem_cons_self
        by_cases hagg : ∃ l, e = .agg ⟨l⟩
        · obtain ⟨l, rfl⟩ := hagg
          cases f with
          | zero => cases h3
          | succ f' =>
            simp only [settle] at h3
            obtain ⟨l', h5, rfl⟩ := Option.map_eq_some_iff.1 h3
            -- its cells, one fuel down
            have : V φ1 (.agg ⟨l⟩) (.agg ⟨C.take z⟩) := V.agg' hc1
            have h6 := ih this (v' := .agg ⟨l'⟩) (by simp only [settle, h5, Option.map_some])
            obtain ⟨ys, hys, hyl⟩ := h6.inv_agg
            cases hys
            exact hyl
        · have hve : vcells e = [e] := by
            cases e <;> first | rfl | (rename_i l; obtain ⟨l⟩ := l; exact absurd ⟨l, rfl⟩ hagg)
          rw [hve] at hc1 hlen
          have hz1 : z = 1 := by simpa using hlen.symm
          subst hz1
          obtain ⟨y0, ys0, hC, hv0, hl0⟩ := hc1.inv_cons
          rw [hl0.inv_nil] at hC
          have h6 := ih hv0 h3
          have hve' : vcells e' = [e'] := by
            generalize e' = q at h3
            cases q <;> first | rfl | exact absurd (settle_agg h3) hagg
          rw [hve', hC]
          exact VL.cons h6 (VL.nil _)
    unfold settle at h
    split at h
    · cases h; rw [hv.inv_bool]; exact .bool _
    · cases h; rw [hv.inv_int]; exact .int _ _
    · cases h; rw [hv.inv_str]; exact .str _
    · cases h; rw [hv.inv_nptr]; exact .nptr
    · rename_i b o
      obtain ⟨hb, hq⟩ := bif_some h
      have hb := Nat.le_of_ble_eq_true hb
      cases hq
      cases hv with
      | ptr e => exact .ptr (lay_blk st hb e)
    · cases h; rw [(hv.inv_nsl).2.2]; exact .nsl
    · rename_i b o n z
      cases hble : Nat.ble (b + 1) s.next with
      | true =>
        rw [hble] at h
        have hb := Nat.le_of_ble_eq_true hble
        cases h
        cases hv with
        | sl e a b c d => exact .sl (lay_blk st hb e) a b c d
      | false =>
        rw [hble] at h
        simp only [cond_false] at h
        have hb : s.next ≤ b := by
          rcases Nat.lt_or_ge b s.next with hlt | hge
          · rw [Nat.ble_eq_true_of_le (show b + 1 ≤ s.next from hlt)] at hble; cases hble
          · exact hge
        obtain ⟨c, h1, h⟩ := Option.bind_eq_some_iff.1 h
        obtain ⟨hg1, hq⟩ := bif_some h
        clear h
        simp only [Bool.and_eq_true] at hg1
        have hz := Nat.le_of_ble_eq_true hg1.2
        obtain ⟨es, h2, h⟩ := Option.bind_eq_some_iff.1 hq
        obtain ⟨es', h3, h4⟩ := Option.bind_eq_some_iff.1 h
        obtain ⟨h5, hq2⟩ := bif_some h4
        cases hq2
        cases hv with
        | sl e a1 a2 a3 a4 =>
          rename_i bc δ sz cap o'
          obtain ⟨b', p, cc, el, fz, q1, q2, q3, q4⟩ := loadV_some st.good.rel h1 (V.ptr (o := o) e)
          cases q1
          have hwr : wr (s1.get b) = true := by
            refine st.good.rel.live_wr e ?_
            unfold loadV at h1
            dsimp only at h1
            split at h1
            · rename_i hh; rw [hh]; rfl
            · cases h1
          have hnew : w.heap.size ≤ bc := by
            rcases st.tr.new b bc (δ, sz) hb e hwr with hh | ⟨j, x, hj, ej, _⟩
            · exact hh
            · rw [(g.fresh j hj).1] at ej; cases ej
          have hO := st.good.rel.obj _ _ _ _ e
          have hcsz : cc.size = sz := by
            cases hh : s1.get b with
            | none => rw [hh] at hwr; cases hwr
            | some ob =>
              rw [hh] at hO
              cases ob with
              | cells ro c0 =>
                obtain ⟨cc2, el2, fz2, b1, b2, _⟩ := hO
                rw [q2] at b1
                cases b1
                exact b2
              | map m => obtain ⟨_, _, b1, _⟩ := hO; rw [q2] at b1; cases b1
              | loop l => obtain ⟨_, b1, _⟩ := hO; rw [q2] at b1; cases b1
              | dead => rw [hh] at hwr; cases hwr
          have hcl : c.length = n * z := by simpa using q4.1
          obtain ⟨k1, k2⟩ := chunk_flat hz n (fun v hv => List.all_eq_true.1 hg1.1 v hv) h2 hcl
          have hel : es.length = n := by
            have := flatMap_len k2
            rw [k1, hcl] at this
            exact (Nat.mul_right_cancel (by omega) this).symm
          have h5' : ∀ e ∈ es', (vcells e).length = z := fun e he => Nat.eq_of_beq_eq_true (List.all_eq_true.1 h5 e he)
          have q5 : VL φ1 (es.flatMap vcells) ((List.range (n * z)).map fun j => cc.getD (δ + o + j) undf) := by rw [k1]; exact q4
          obtain ⟨l1, l2⟩ := ihE k2 q5 h3 h5'
          have him : (φ.lay w w1).im bc = some cc := by
            show (if bc < w.heap.size then φ.im bc else _) = some cc
            rw [if_neg (by omega), q2]
          refine .imsl him hz (by rw [l2, hel]) a1 ?_ h5' fun j hj => ?_
          · have : n * z ≤ cap * z := Nat.mul_le_mul_right z a1
            omega
          · rcases a4 with rfl | ⟨rfl, _⟩
            · have := l1.2 j (by rw [l1.1]; simpa using hj)
              simpa [List.getD, hj] using this
            · simp at hj
    · rename_i z es
      obtain ⟨es', h3, h4⟩ := Option.bind_eq_some_iff.1 h
      obtain ⟨h5, hq2⟩ := bif_some h4
      cases hq2
      have h5' : ∀ e ∈ es', (vcells e).length = z := fun e he => Nat.eq_of_beq_eq_true (List.all_eq_true.1 h5 e he)
      rcases hv.inv_imsl with ⟨rfl, p1, ad, cap, rfl⟩ | ⟨b, o, cap, cc, rfl, e1, e2, e3, e4, e5, e6⟩
      · simp only [settleL, Option.some.injEq] at h3
        subst h3
        exact .iesl _ p1
      have hfl := flatMap_len e5
      have q5 : VL φ1 (es.flatMap vcells) ((List.range (es.length * z)).map fun j => cc.getD (o + j) undf) :=
        ⟨by simp [hfl], fun j hj => by
          have hj' : j < es.length * z := by omega
          have := e6 j hj'
          simpa [List.getD, hj'] using this⟩
      obtain ⟨l1, l2⟩ := ihE e5 q5 h3 h5'
      refine .imsl (lay_im g st e1) e2 l2 e3 e4 h5' fun j hj => ?_
      have := l1.2 j (by rw [l1.1]; simpa using hj)
      simpa [List.getD, hj] using this
    · rename_i l
      obtain ⟨l', h1, rfl⟩ := Option.map_eq_some_iff.1 h
      obtain ⟨ys, rfl, hl⟩ := hv.inv_agg
      exact V.agg' (ihL hl h1)
    · rename_i l
      obtain ⟨l', h1, rfl⟩ := Option.map_eq_some_iff.1 h
      obtain ⟨ys, rfl, hl⟩ := hv.inv_tuple
      exact V.tuple' (ihL hl h1)
    · cases h
end
end Go.Ev

namespace Go.Ev

/-- What is known of a function's answers holds. -/
def PrimOk (P : Program) (fid : Nat) (p : List Value → Option Value) : Prop :=
  ∀ (B0 : Nat) (φ : Emb) (s : St) (w : World) (args args' : List Value) (v : Value), Good P B0 φ s w → VL φ args args' → p args = some v →
    ∃ φ' w' v', Step P B0 φ s w φ' s w' ∧ V φ' v v' ∧ CallDo P (callFunc fid ⟨args'⟩) w v' w'

/-- What the program's table of compact code is of. -/
structure POk (P : Program) (prog : Nat → Option CDecl) : Prop where
  mix : P.follows .mixedOrders = true
  fn : ∀ fid cf, prog fid = some (.fn cf) → ∃ fn, P.funcs[fid]? = some fn ∧ funcC P fn cf = true ∧ (fn.name == "runtime.NumGoroutine") = false
  add : ∀ fid, prog fid = some .add64 → ∀ (x y : Int) (c : Nat) (w : World), c ≤ 1 → (callFunc fid #[.int .u64 x, .int .u64 y, .int .u64 (c : Int)]).run P w =
    .ok (.value (.tuple #[.int .u64 (((x.toNat + y.toNat + c) % 2 ^ 64 : Nat) : Int), .int .u64 (((x.toNat + y.toNat + c) / 2 ^ 64 : Nat) : Int)])) w
  sub : ∀ fid, prog fid = some .sub64 → ∀ (x y : Int) (c : Nat) (w : World), c ≤ 1 → (callFunc fid #[.int .u64 x, .int .u64 y, .int .u64 (c : Int)]).run P w =
    .ok (.value (.tuple #[.int .u64 (((x.toNat + 2 ^ 64 - y.toNat - c) % 2 ^ 64 : Nat) : Int), .int .u64 (((if x.toNat < y.toNat + c then 1 else 0 : Nat)) : Int)])) w
  prim : ∀ fid p, prog fid = some (.prim p) → PrimOk P fid p

section
variable {P : Program} {B0 : Nat} {prog : Nat → Option CDecl} {φ : Emb} {s : St} {w : World}

theorem ext_some {sub : Bool} {args : List Value} {v : Value} (h : ext sub args = some v) : ∃ (x y : Int) (c : Nat), args = [.int .u64 x, .int .u64 y, .int .u64 (c : Int)] ∧ c ≤ 1 ∧
    v = (bif sub then .tuple ⟨[.int .u64 (((x.toNat + 2 ^ 64 - y.toNat - c) % 2 ^ 64 : Nat) : Int), .int .u64 (((if x.toNat < y.toNat + c then 1 else 0 : Nat)) : Int)]⟩
      else .tuple ⟨[.int .u64 (((x.toNat + y.toNat + c) % 2 ^ 64 : Nat) : Int), .int .u64 (((x.toNat + y.toNat + c) / 2 ^ 64 : Nat) : Int)]⟩) := by
  unfold ext at h
  split at h
  · rename_i x y c
    obtain ⟨h1, h2⟩ := bif_some h
    refine ⟨x, y, c, rfl, Nat.le_of_ble_eq_true h1, ?_⟩
    cases sub with
    | false => simp only [cond_false, Option.some.injEq] at h2; rw [← h2]; rfl
    | true =>
      simp only [cond_true, Option.some.injEq] at h2
      rw [← h2]
      simp only [cond_true]
      congr 3
      cases hb : Nat.ble (y.toNat + c) x.toNat with
      | true =>
        have := Nat.le_of_ble_eq_true hb
        rw [if_neg (by omega)]
        rfl
      | false =>
        have : x.toNat < y.toNat + c := by
          rcases Nat.lt_or_ge x.toNat (y.toNat + c) with h | h
          · exact h
          · rw [Nat.ble_eq_true_of_le h] at hb; cases hb
        rw [if_pos this]
        rfl
  · cases h

theorem updMany_rel : ∀ {ps : List Nat} {args args' : List Value} {F : Fr} {ts : Array Value}, FRel φ F ts → (∀ t ∈ ps, t < ts.size) → args.length = ps.length → VL φ args args' →
    FRel φ (updMany F ps args) ((ps.zip args').foldl (fun ts (x : Nat × Value) => ts.setIfInBounds x.1 x.2) ts) ∧
    ((ps.zip args').foldl (fun ts (x : Nat × Value) => ts.setIfInBounds x.1 x.2) ts).size = ts.size
  | [], args, args', F, ts, hf, _, hl, _ => by
    cases args with
    | nil => exact ⟨hf, rfl⟩
    | cons _ _ => simp at hl
  | p :: ps, args, args', F, ts, hf, hp, hl, ha => by
    cases args with
    | nil => simp at hl
    | cons v vs =>
      obtain ⟨y, ys, rfl, h1, h2⟩ := ha.inv_cons
      have hpt := hp p List.mem_cons_self
      obtain ⟨r1, r2⟩ := updMany_rel (ps := ps) (args := vs) (args' := ys) (F := upd F p v) (ts := ts.setIfInBounds p y) (hf.upd hpt h1)
        (fun t ht => by simpa using hp t (List.mem_cons_of_mem _ ht)) (by simpa using hl) h2
      refine ⟨r1, ?_⟩
      simp only [List.zip_cons_cons, List.foldl_cons]
      rw [r2]
      simp

theorem loop_at (g : Good P B0 φ s w) {i b : Nat} {x : Nat × Nat} (hb : φ.blk i = some (b, x)) {r : ILoop} (hr : s.get i = some (.loop r)) : ∃ L, w.heap[b]? = some (.loop L) ∧ LoopRel P φ r L := by
  have hO := g.rel.obj i b x.1 x.2 hb
  rw [hr] at hO
  exact hO

theorem run_beginRound {l : Nat} {L : Loop} (h : w.heap[l]? = some (.loop L)) (hs : L.state = .ready) : (Instr.beginRound l).run P w = .ok () (setB w l (.loop { L with state := .busy })) := by
  have hg : (getObj l).run P w = .ok (.loop L) w := run_getObj h (fun c e f => by simp)
  simp [Instr.beginRound, Instr.getLoop, hg, hs, setObj, Sem.run, h, setB]

theorem run_endRound {l : Nat} {L : Loop} (h : w.heap[l]? = some (.loop L)) (j : Option Code) :
    (Instr.endRound l j).run P w = .ok (.bool j.isNone) (setB w l (.loop { L with state := if j.isNone then .ready else .done, pending := j })) := by
  have hg : (getObj l).run P w = .ok (.loop L) w := run_getObj h (fun c e f => by simp)
  simp [Instr.endRound, Instr.getLoop, hg, setObj, Sem.run, h, setB]

theorem run_yield {l : Nat} {L : Loop} {ps : List Nat} (h : w.heap[l]? = some (.loop L)) (hp : L.params.toList = ps) (args' : List Value) (hl : args'.length = L.params.size) :
    (Instr.yield l ⟨args'⟩).run P w = .ok (.round l L.fn ((ps.zip args').foldl (fun ts (x : Nat × Value) => ts.setIfInBounds x.1 x.2) L.tmps) L.assign L.body) w := by
  have hg : (getObj l).run P w = .ok (.loop L) w := run_getObj h (fun c e f => by simp)
  have hz : (L.params.zip ⟨args'⟩).foldl (fun tmps (t, a) => tmps.setIfInBounds t a) L.tmps = (ps.zip args').foldl (fun ts (x : Nat × Value) => ts.setIfInBounds x.1 x.2) L.tmps := by
    rw [← hp, ← Array.foldl_toList]
    simp
  have hgl : (Instr.getLoop l).run P w = .ok L w := by simp [Instr.getLoop, hg]
  unfold Instr.yield
  rw [Sem.run_bind, hgl, Result.andThen_ok]
  rw [hz]
  have : ¬ ((⟨args'⟩ : Array Value).size ≠ L.params.size) := by simpa using hl
  simp [hl]

theorem sim_round {n : Nat} {call : CallF} (hcall : HCall P B0 call) (hmix : P.follows .mixedOrders = true) {l l' : Nat} {δ sz : Nat} {args args' : List Value} {v : Value} {s' : St} (g : Good P B0 φ s w) (hb : φ.blk l = some (l', δ, sz))
    (ha : VL φ args args') (h : runRound call n l args s = some (v, s')) :
    ∃ φ' w' v', Step P B0 φ s w φ' s' w' ∧ V φ' v v' ∧ CallDo P (Instr.yield l' ⟨args'⟩) w v' w' := by
  unfold runRound at h
  split at h
  · rename_i r hr
    obtain ⟨L, hL, hLR⟩ := loop_at g hb hr
    split at h
    · rename_i hst
      obtain ⟨hck, h⟩ := check_some h
      simp only [Bool.and_eq_true] at hck
      have hwm := Nat.le_of_ble_eq_true hck.1
      have hlen := Nat.eq_of_beq_eq_true hck.2
      split at h
      · rename_i F1 s1 e1
        split at h
        · rename_i r1 hr1
          split at h
          · rename_i hst1
            rw [putK_eq] at h
            split at h
            · rename_i e F3 s3 e3
              -- the round's frame
              have hl' : args'.length = L.params.size := by
                have h1 := ha.1
                have h2 := hLR.params
                have : L.params.toList.length = r.params.length := by rw [h2]
                simp at this
                omega
              obtain ⟨hfr, hfs⟩ := updMany_rel (ps := r.params) hLR.frame hLR.bound hlen ha
              let b : Frame := { (default : Frame) with fn := L.fn, kind := .normal, roundOf := some l' }
              obtain ⟨φ1, ts1, ds1, w1, st1, hf1, hN1, _, hd1, a1⟩ := sim_code (n := n) hcall hmix r.assign L.assign L.tmps.size w.heap.size φ _ s w _ [] _ F1 s1 hLR.assign g hfr hfs e1 (Marks.nil _ _) (Nat.le_refl _) b (.inr hLR.noA)
              have hd1 := hd1 hLR.noA
              subst hd1
              have hb1 := st1.tr.ext.blk _ _ hb
              obtain ⟨L1, hL1, hLR1⟩ := loop_at st1.good hb1 hr1
              have hbr := run_beginRound (P := P) hL1 (by rw [hLR1.state]; exact hst1)
              have st2 := Step.put st1.good hb1 (by rw [hr1]; rfl) (by rw [st1.wm]; exact hwm) (o := .loop { r1 with state := .busy }) (co := .loop { L1 with state := .busy })
                ⟨_, rfl, hLR1.params, hLR1.bound, hLR1.frame, hLR1.assign, hLR1.body, hLR1.noA, hLR1.noB, rfl, hLR1.pending⟩
              obtain ⟨φ3, ts3, ds3, w3, st3, hf3, hN3, _, hd3, a3⟩ := sim_code (n := n) hcall hmix r.body L.body L.tmps.size _ φ1 F1 _ _ ts1 [] e F3 s3 hLR.body st2.good hf1 hN1 e3 (Marks.nil _ _) (Nat.le_refl _) b (.inr hLR.noB)
              have hb3 := st3.tr.ext.blk _ _ hb1
              have hy : (Instr.yield l' ⟨args'⟩).run P w = .ok (.round l' L.fn ((r.params.zip args').foldl (fun ts (x : Nat × Value) => ts.setIfInBounds x.1 x.2) L.tmps) L.assign L.body) w := by
                exact run_yield hL hLR.params args' hl'
              have hround : ∀ cs', Steps P (lone (Frame.round l' L.fn ((r.params.zip args').foldl (fun ts (x : Nat × Value) => ts.setIfInBounds x.1 x.2) L.tmps) L.assign L.body .normal) cs' w)
                  (lone (b.atR ⟨ts1, []⟩ [.code L.body]) cs' (setB w1 l' (.loop { L1 with state := .busy }))) := by
                intro cs'
                have hb0 : Frame.round l' L.fn ((r.params.zip args').foldl (fun ts (x : Nat × Value) => ts.setIfInBounds x.1 x.2) L.tmps) L.assign L.body .normal =
                    b.atR ⟨(r.params.zip args').foldl (fun ts (x : Nat × Value) => ts.setIfInBounds x.1 x.2) L.tmps, []⟩ [.code L.assign, .beginRound, .code L.body] := by
                  simp [Frame.round, Frame.atR, b]
                rw [hb0]
                exact Steps.trans (a1 [.beginRound, .code L.body] cs') (.one (stepR_beginRound rfl hbr))
              unfold endRound at h
              split at h
              · rename_i r3 hr3
                obtain ⟨L3, hL3, hLR3⟩ := loop_at st3.good hb3 hr3
                have hwm3 : s3.wm ≤ l := by
                  have q1 := st3.wm
                  have q2 := st2.wm
                  have q3 := st1.wm
                  omega
                have hw3 : wr (s3.get l) = true := by rw [hr3]; rfl
                cases e with
                | normal =>
                  simp only [putK_eq, Option.some.injEq, Prod.mk.injEq] at h
                  obtain ⟨rfl, rfl⟩ := h
                  have st4 := Step.put st3.good hb3 hw3 hwm3 (o := .loop { r3 with state := .ready, pending := none }) (co := .loop { L3 with state := .ready, pending := none })
                    ⟨_, rfl, hLR3.params, hLR3.bound, hLR3.frame, hLR3.assign, hLR3.body, hLR3.noA, hLR3.noB, rfl, trivial⟩
                  refine ⟨φ3, _, .bool true, (st1.trans st2).trans (st3.trans st4), .bool true, .inr (.inr ⟨_, _, _, _, _, _, hy, fun c cs => ?_⟩)⟩
                  exact (hround (c :: cs)).trans (Steps.trans (a3 [] (c :: cs)) (.one (stepR_round_end rfl rfl (run_endRound (P := P) hL3 none))))
                | ret =>
                  simp only [putK_eq, Option.some.injEq, Prod.mk.injEq] at h
                  obtain ⟨rfl, rfl⟩ := h
                  have st4 := Step.put st3.good hb3 hw3 hwm3 (o := .loop { r3 with state := .done, pending := some .ret }) (co := .loop { L3 with state := .done, pending := some .ret })
                    ⟨_, rfl, hLR3.params, hLR3.bound, hLR3.frame, hLR3.assign, hLR3.body, hLR3.noA, hLR3.noB, rfl, trivial⟩
                  refine ⟨φ3, _, .bool false, (st1.trans st2).trans (st3.trans st4), .bool false, .inr (.inr ⟨_, _, _, _, _, _, hy, fun c cs => ?_⟩)⟩
                  obtain ⟨k', a3⟩ := a3 [] (c :: cs)
                  exact (hround (c :: cs)).trans (Steps.trans a3 (.one (stepR_round_ret rfl rfl (run_endRound (P := P) hL3 (some .ret)))))
                | exit i =>
                  simp only [putK_eq, Option.some.injEq, Prod.mk.injEq] at h
                  obtain ⟨rfl, rfl⟩ := h
                  have st4 := Step.put st3.good hb3 hw3 hwm3 (o := .loop { r3 with state := .done, pending := some (.exit i) }) (co := .loop { L3 with state := .done, pending := some (.exit i) })
                    ⟨_, rfl, hLR3.params, hLR3.bound, hLR3.frame, hLR3.assign, hLR3.body, hLR3.noA, hLR3.noB, rfl, rfl⟩
                  refine ⟨φ3, _, .bool false, (st1.trans st2).trans (st3.trans st4), .bool false, .inr (.inr ⟨_, _, _, _, _, _, hy, fun c cs => ?_⟩)⟩
                  obtain ⟨k', hk', a3⟩ := a3 [] (c :: cs)
                  exact (hround (c :: cs)).trans (Steps.trans a3 (.one (stepR_round_exit rfl rfl (by rw [hk']; rfl) (run_endRound (P := P) hL3 (some (.exit i))))))
              · cases h
            · cases h
          · cases h
        · cases h
      · cases h
    · cases h
  · cases h

theorem ofValue_fn (fid : FuncId) (ys args' : List Value) : (do let d ← Deferred.ofValue (.func (.func fid) ⟨[]⟩ ⟨ys⟩) ⟨args'⟩; invoke d.target d.args : Sem Next) = callFunc fid ⟨args' ++ ys⟩ := by
  simp [Deferred.ofValue, invoke]

theorem ofValue_yield (l : Nat) (args' : List Value) : (do let d ← Deferred.ofValue (.func (.yield l) ⟨[]⟩ ⟨[]⟩) ⟨args'⟩; invoke d.target d.args : Sem Next) = Instr.yield l ⟨args'⟩ := by
  simp [Deferred.ofValue, invoke]

theorem run_callFunc {fid : FuncId} {fn : Func} (hfn : P.funcs[fid]? = some fn) (hb : fn.body.isSome = true) (hn : (fn.name == "runtime.NumGoroutine") = false) (args : Array Value) :
    (callFunc fid args).run P w = .ok (.enter fid args) w := by
  have hb' : fn.body.isNone = false := by cases h : fn.body <;> simp_all
  have hn' : ¬ fn.name = "runtime.NumGoroutine" := by simpa using hn
  have hb2 : fn.body ≠ none := by intro h; rw [h] at hb; cases hb
  simp [callFunc, program, Sem.run, hfn, hn', hb2]

theorem funcC_body {fn : Func} {cf : CFunc} (h : funcC P fn cf = true) : fn.body.isSome = true := by
  unfold funcC at h
  simp only [Bool.and_eq_true] at h
  cases hb : fn.body with
  | none => rw [hb] at h; simp at h
  | some _ => rfl

theorem sim_call (K : POk P prog) : ∀ n, HCall P B0 (callV prog n)
  | 0 => by
    intro φ s w f f' args args' v s' g hf ha h
    cases h
  | n + 1 => by
    have ih := sim_call K n
    intro φ s w f f' args args' v s' g hf ha h
    unfold callV at h
    split at h
    · rename_i fid cap
      cases hf with
      | fn e1 e2 =>
        rename_i ys
        have hcap : VL φ cap ys := ⟨e1, e2⟩
        rw [ofValue_fn]
        split at h
        · rename_i cf hp
          obtain ⟨fn, hfn, hfc, hnm⟩ := K.fn fid cf hp
          have hrun := run_callFunc (w := w) hfn (funcC_body hfc) hnm ⟨args' ++ ys⟩
          unfold runFn at h
          obtain ⟨hck, h⟩ := check_some h
          have hlen := Nat.le_of_ble_eq_true hck
          cases hpure : cf.pure with
          | false =>
            rw [hpure] at h
            simp only [cond_false] at h
            obtain ⟨φ1, w1, v1, st, hv, hs⟩ := sim_fn ih K.mix hfn hfc g (ha.append hcap) hlen h
            refine ⟨φ1, w1, v1, st, hv, .inr (.inl ⟨fid, _, w, hrun, fun c cs => ?_⟩)⟩
            obtain ⟨fr, s1, _, s2⟩ := hs (c :: cs)
            exact s1.trans (.one (step_leave_returned s2))
          | true =>
            rw [hpure] at h
            simp only [cond_true] at h
            unfold pureEnd at h
            split at h
            · cases h
            · rename_i v1 s1 hfin
              split at h
              · cases h
              · rename_i v2 hset
                rw [fVal_eq] at h
                cases h
                obtain ⟨φ1, w1, v3, st, hv, hs⟩ := sim_fn ih K.mix hfn hfc g.callee (ha.append hcap) hlen hfin
                refine ⟨φ.lay w w1, w1, v3, lay_step g st, settle_V g st 8 hv hset, .inr (.inl ⟨fid, _, w, hrun, fun c cs => ?_⟩)⟩
                obtain ⟨fr, s1, _, s2⟩ := hs (c :: cs)
                exact s1.trans (.one (step_leave_returned s2))
        · rename_i hp
          split at h
          · rename_i v1 he
            rw [fVal_eq] at h
            cases h
            obtain ⟨x, y, c, h1, h2, h3⟩ := ext_some he
            have hall := ha.append hcap
            rw [h1] at hall
            obtain ⟨y1, l1, q1, r1, hall⟩ := hall.inv_cons
            obtain ⟨y2, l2, rfl, r2, hall⟩ := hall.inv_cons
            obtain ⟨y3, l3, rfl, r3, hall⟩ := hall.inv_cons
            rw [hall.inv_nil, r1.inv_int, r2.inv_int, r3.inv_int] at q1
            rw [q1]
            have hr := K.add fid hp x y c w h2
            rw [h3]
            exact ⟨φ, w, _, Step.refl g, .tuple' (VL.cons (.int _ _) (VL.cons (.int _ _) (VL.nil φ))), .inl hr⟩
          · cases h
        · rename_i hp
          split at h
          · rename_i v1 he
            rw [fVal_eq] at h
            cases h
            obtain ⟨x, y, c, h1, h2, h3⟩ := ext_some he
            have hall := ha.append hcap
            rw [h1] at hall
            obtain ⟨y1, l1, q1, r1, hall⟩ := hall.inv_cons
            obtain ⟨y2, l2, rfl, r2, hall⟩ := hall.inv_cons
            obtain ⟨y3, l3, rfl, r3, hall⟩ := hall.inv_cons
            rw [hall.inv_nil, r1.inv_int, r2.inv_int, r3.inv_int] at q1
            rw [q1]
            have hr := K.sub fid hp x y c w h2
            rw [h3]
            exact ⟨φ, w, _, Step.refl g, .tuple' (VL.cons (.int _ _) (VL.cons (.int _ _) (VL.nil φ))), .inl hr⟩
          · cases h
        · rename_i p hp
          split at h
          · rename_i v1 he
            rw [fVal_eq] at h
            cases h
            exact K.prim fid p hp B0 φ s w _ _ _ g (ha.append hcap) he
          · cases h
        · cases h
    · rename_i l
      cases hf with
      | yield e =>
        rw [ofValue_yield]
        exact sim_round ih K.mix g e ha h
    · cases h

/-- What a pure call from nothing answers, is known. -/
theorem prim_closed (K : POk P prog) {fid n : Nat} {b : Bool} {s1 : St} (h : callV prog n (.func (.func fid) ⟨[]⟩ ⟨[]⟩) [] ⟨0, 0, .leaf⟩ = some (.bool b, s1)) :
    PrimOk P fid (fun args => match args with
      | [] => some (.bool b)
      | _ => none) := by
  intro B0 φ s w args args' v g ha hp
  match args, ha, hp with
  | [], ha, hp =>
    cases hp
    have e : args' = [] := ha.inv_nil
    subst e
    let φE : Emb := ⟨fun _ => none, fun _ => none⟩
    have gE : Good P B0 φE ⟨0, 0, .leaf⟩ w := by
      refine ⟨⟨fun i b δ sz e => ?_, fun i b δ sz e => ?_, fun i j b x y _ e => ?_, fun i b x e => ?_, fun b cc e => ?_, fun i b x e => ?_⟩, fun i _ => ⟨rfl, ?_⟩, Nat.le_refl _, g.B0⟩
      all_goals first | (cases e; done) | rfl
    obtain ⟨φ1, w1, v1, st, hv, hc⟩ := sim_call (B0 := B0) K n φE ⟨0, 0, .leaf⟩ w _ (.func (.func fid) ⟨[]⟩ ⟨[]⟩) [] [] _ _ gE (.fn rfl (fun i hi => by cases hi)) (VL.nil _) h
    have hv := hv.inv_bool
    subst hv
    have keep : ∀ b, b < w.heap.size → w1.heap[b]? = w.heap[b]? := fun b hb => st.tr.keep b hb fun i x hi e => by cases e
    refine ⟨φ, w1, .bool b, ⟨⟨⟨fun i b δ sz e => ?_, fun i b δ sz e => ?_, g.rel.sep, g.rel.base, fun b cc e => ?_, g.rel.imsep⟩, g.fresh, g.wm, Nat.le_trans g.B0 st.tr.size⟩,
      ⟨Ext.refl _, st.tr.os, st.tr.tape, st.tr.output, st.tr.size, fun b hb _ => keep b hb, fun i b x hi e h => .inr ⟨i, x, hi, e, h⟩, fun b cc e => .inl e, st.tr.ice⟩, rfl, Nat.le_refl _, fun _ _ => rfl, fun _ _ h => h, fun _ _ h => ⟨h, rfl⟩⟩, .bool b, ?_⟩
    · exact Nat.lt_of_lt_of_le (g.rel.lt i b δ sz e) st.tr.size
    · rw [keep b (g.rel.lt i b δ sz e)]
      exact g.rel.obj i b δ sz e
    · obtain ⟨el, fz, h2⟩ := g.rel.imo b cc e
      exact ⟨el, fz, by rw [keep b (Array.getElem?_eq_some_iff.1 h2).1]; exact h2⟩
    · rw [ofValue_fn] at hc
      simpa using hc
  | _ :: _, _, hp => cases hp
end
end Go.Ev

