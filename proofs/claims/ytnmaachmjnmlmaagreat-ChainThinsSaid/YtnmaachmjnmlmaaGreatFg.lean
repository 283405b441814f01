/-
  Effects: what is appended.

  Effects that are no calls, all of them.

  A region in the order of its text: its frames and states, one by one; what its checks tell.
-/
import Derived.Test.YtnmaachmjnmlmaaGreatFf
import Derived.Deep.AppendSrc
set_option linter.unusedVariables false
set_option linter.unusedSimpArgs false
set_option linter.unusedSectionVars false
namespace Go.Ev

section
variable {P : Program} {φ : Emb} {H : Get} {w : World} {B0 : Nat} {s : St} {F : Fr} {ρ : Operand → Value}

theorem dead_of {o : Option IObj} (h : live o = false) : o = none ∨ o = some .dead := by
  cases o with
  | none => exact .inl rfl
  | some o => cases o <;> first | exact .inr rfl | cases h

/-- A row is taken over by a new ideal block: the old one is dead. -/
theorem Step.adopt (g : Good P B0 φ s w) {i b δ sz : Nat} (hi : φ.blk i = some (b, δ, sz)) (hw : wr (s.get i) = true) (hm : s.wm ≤ i) {co : Obj} {o' : Nat} {c : List Value}
    (ho : ObjRel P (φ.add s.next b o' sz) (some (.cells false c)) o' sz (some co)) :
    Step P B0 φ s w (φ.add s.next b o' sz) (((s.bump 1).put i .dead).put s.next (.cells false c)) (setB w b co) := by
  have hlt : i < s.next := by
    rcases Nat.lt_or_ge i s.next with h | h
    · exact h
    · rw [(g.fresh i h).1] at hi; cases hi
  have hn : φ.blk s.next = none := (g.fresh _ (Nat.le_refl _)).1
  have hx := Emb.add_ext hn b o' sz
  have hb := g.rel.lt _ _ _ _ hi
  have gn : (((s.bump 1).put i .dead).put s.next (.cells false c)).get s.next = some (.cells false c) := by rw [St.get_put, if_pos rfl]
  have gi : (((s.bump 1).put i .dead).put s.next (.cells false c)).get i = some .dead := by
    rw [St.get_put, if_neg (by omega), St.get_put, if_pos rfl]
  have go : ∀ j, j ≠ i → j ≠ s.next → (((s.bump 1).put i .dead).put s.next (.cells false c)).get j = s.get j := fun j h1 h2 => by
    rw [St.get_put, if_neg h2, St.get_put, if_neg h1, St.bump_get]
  generalize hs' : ((s.bump 1).put i .dead).put s.next (.cells false c) = s' at *
  have hnx : s'.next = s.next + 1 := by rw [← hs']; rfl
  have hwm : s'.wm = s.wm := by rw [← hs']; rfl
  have old : ∀ j x, j ≠ s.next → (φ.add s.next b o' sz).blk j = some x → φ.blk j = some x := fun j x hj e => by simpa [Emb.add, hj] using e
  have at_ : ∀ x, (φ.add s.next b o' sz).blk s.next = some x → x = (b, o', sz) := fun x e => by simp [Emb.add] at e; exact e.symm
  -- whatever else is live stands not for b
  have away : ∀ j x, j ≠ i → j ≠ s.next → live (s'.get j) = true → φ.blk j = some (b, x) → False := fun j x h1 h2 h3 h4 => by
    rw [go j h1 h2] at h3
    exact g.rel.sep i j b _ _ (Ne.symm h1) hi h4 hw h3
  have hice : NoIce co := by
    obtain ⟨cc, el, fz, h1, _, _, _, _, h2⟩ := ho
    intro cc' el' fz' h
    cases h1
    cases h
    exact h2
  refine ⟨⟨⟨?_, ?_, ?_, ?_, ?_, ?_⟩, ?_, ?_, ?_⟩, ⟨hx, rfl, rfl, rfl, ?_, ?_, ?_, ?_, fun k cc el fz h hf => ?_⟩, hwm, ?_, ?_, ?_, ?_⟩
  rotate_left 13
  · by_cases hk : k = b
    · subst hk
      rw [setB_at w k co hb] at h
      exact absurd (hice _ _ _ (Option.some.inj h)) hf
    · rwa [setB_ne w b co hk] at h
  rotate_left 4
  · intro j k x y e
    rw [setB_size]
    by_cases hj : j = s.next
    · subst hj; cases at_ _ e; exact hb
    · exact g.rel.lt j k x y (old j _ hj e)
  · intro j k x y e
    by_cases hj : j = s.next
    · subst hj
      cases at_ _ e
      rw [setB_at w b co hb, gn]
      exact ho
    · have e' := old j _ hj e
      by_cases hji : j = i
      · subst hji; rw [gi]; trivial
      · rw [go j hji hj]
        by_cases hk : k = b
        · subst hk
          have hl : live (s.get j) = false := by
            cases hl : live (s.get j) with
            | false => rfl
            | true => exact (away j _ hji hj (by rw [go j hji hj]; exact hl) e').elim
          rcases dead_of hl with h | h <;> rw [h] <;> trivial
        · rw [setB_ne w b co hk]
          exact (g.rel.obj j k x y e').mono hx
  · intro j k d x y hne e1 e2 w1 l2
    by_cases hj : j = s.next
    · subst hj
      cases at_ _ e1
      have hk : k ≠ s.next := fun h => hne h.symm
      by_cases hki : k = i
      · subst hki; rw [gi] at l2; cases l2
      · exact away k _ hki hk l2 (old k _ hk e2)
    · by_cases hji : j = i
      · subst hji; rw [gi] at w1; cases w1
      · by_cases hk : k = s.next
        · subst hk
          cases at_ _ e2
          exact away j _ hji hj (live_of_wr w1) (old j _ hj e1)
        · by_cases hki : k = i
          · subst hki; rw [gi] at l2; cases l2
          · rw [go j hji hj] at w1
            rw [go k hki hk] at l2
            exact g.rel.sep j k d x y hne (old j _ hj e1) (old k _ hk e2) w1 l2
  · intro j k x e w1
    by_cases hj : j = s.next
    · subst hj; cases at_ _ e; exact g.rel.base i b _ hi hw
    · by_cases hji : j = i
      · subst hji; rw [gi] at w1; cases w1
      · rw [go j hji hj] at w1; exact g.rel.base j k x (old j _ hj e) w1
  · intro k cc e
    obtain ⟨el, fz, h⟩ := g.rel.imo k cc e
    refine ⟨el, fz, ?_⟩
    rw [setB_ne w b co]
    · exact h
    · rintro rfl
      rw [show (φ.add s.next k o' sz).im = φ.im from rfl, g.rel.imsep i k _ hi hw] at e
      cases e
  · intro j k x e w1
    show φ.im k = none
    by_cases hj : j = s.next
    · subst hj; cases at_ _ e; exact g.rel.imsep i b _ hi hw
    · by_cases hji : j = i
      · subst hji; rw [gi] at w1; cases w1
      · rw [go j hji hj] at w1; exact g.rel.imsep j k x (old j _ hj e) w1
  · intro j hj
    rw [hnx] at hj
    refine ⟨?_, ?_⟩
    · simp only [Emb.add]
      rw [if_neg (by omega)]
      exact (g.fresh j (by omega)).1
    · rw [go j (by omega) (by omega)]
      exact (g.fresh j (by omega)).2
  · rw [hwm, hnx]; have := g.wm; omega
  · rw [setB_size]; exact g.B0
  · rw [setB_size]; exact Nat.le_refl _
  · intro k _ h
    refine setB_ne w b co ?_
    rintro rfl
    rw [h i _ hm hi] at hw
    cases hw
  · intro j k x hj e w1
    by_cases hjn : j = s.next
    · subst hjn
      cases at_ _ e
      exact .inr ⟨i, _, hm, hi, hw⟩
    · by_cases hji : j = i
      · subst hji; rw [gi] at w1; cases w1
      · rw [go j hji hjn] at w1
        exact .inr ⟨j, x, hj, old j _ hjn e, w1⟩
  · intro k x e
    exact .inl e
  · omega
  · intro j hj
    have := g.wm
    exact go j (by omega) (by omega)
  · intro j hj h
    rw [go j ?_ (by omega)]
    · exact h
    · rintro rfl
      rw [h] at hw
      cases hw
  · intro j hj h
    have hji : j ≠ i := by
      rintro rfl
      rw [h] at hi
      cases hi
    refine ⟨?_, go j hji (by omega)⟩
    simp only [Emb.add]
    rw [if_neg (by omega)]
    exact h

/-- A block is dead from now on. -/
theorem Step.kill (g : Good P B0 φ s w) {i b : Nat} {x : Nat × Nat} (hb : φ.blk i = some (b, x)) (hm : s.wm ≤ i) (hn : s.get i ≠ none) : Step P B0 φ s w φ (s.put i .dead) w := by
  have hne : ∀ j, j ≠ i → (s.put i .dead).get j = s.get j := fun j hj => by rw [St.get_put, if_neg hj]
  have hat : (s.put i .dead).get i = some .dead := by rw [St.get_put, if_pos rfl]
  have hlt : i < s.next := by
    rcases Nat.lt_or_ge i s.next with h | h
    · exact h
    · rw [(g.fresh i h).1] at hb; cases hb
  have hH : ∀ j, (s.put i .dead).get j = s.get j ∨ live ((s.put i .dead).get j) = false := fun j => by
    by_cases hj : j = i
    · subst hj; rw [hat]; exact .inr rfl
    · exact .inl (hne j hj)
  have hwr : ∀ j, wr ((s.put i .dead).get j) = true → wr (s.get j) = true := fun j h => by
    by_cases hj : j = i
    · subst hj; rw [hat] at h; cases h
    · rwa [hne j hj] at h
  refine ⟨⟨g.rel.weaken hH, fun j hj => ?_, g.wm, g.B0⟩, ⟨Ext.refl _, rfl, rfl, rfl, Nat.le_refl _, fun _ _ _ => rfl, fun j k y hj e h => .inr ⟨j, y, hj, e, hwr j h⟩, fun _ _ e => .inl e, fun _ _ _ _ h _ => h⟩, rfl, Nat.le_refl _,
    fun j hj => hne j (by omega), fun j hj h => ?_, fun j hj h => ⟨h, hne j ?_⟩⟩
  · have hj' : s.next ≤ j := hj
    rw [hne j (by omega)]
    exact g.fresh j hj'
  · rw [hne j ?_]
    · exact h
    · rintro rfl; exact hn h
  · rintro rfl
    rw [h] at hb
    cases hb

/-- A block is made, with the next number. -/
theorem Step.new (g : Good P B0 φ s w) {co : Obj} {sz : Nat} {o : IObj} (ho : ObjRel P (φ.add s.next w.heap.size 0 sz) (some o) 0 sz (some co)) (hi0 : NoIce co := by intro _ _ _ h; first | (cases h; done) | (cases h; rfl)) :
    Step P B0 φ s w (φ.add s.next w.heap.size 0 sz) ((s.bump 1).put s.next o) (push w co) := by
  have hn : φ.blk s.next = none := (g.fresh _ (Nat.le_refl _)).1
  have hat : ((s.bump 1).put s.next o).get s.next = some o := by rw [St.get_put, if_pos rfl]
  have hne : ∀ j, j ≠ s.next → ((s.bump 1).put s.next o).get j = s.get j := fun j hj => by rw [St.get_put, if_neg hj, St.bump_get]
  have hwm := g.wm
  refine ⟨⟨g.rel.alloc hn hat hne g.B0 ho, fun j hj => ?_, ?_, ?_⟩, Tr.alloc hn hne hi0, rfl, ?_, fun j hj => hne j (by omega), fun j hj h => ?_, fun j hj h => ⟨?_, hne j (by omega)⟩⟩
  · have hj' : s.next + 1 ≤ j := hj
    rw [hne j (by omega)]
    refine ⟨?_, (g.fresh j (by omega)).2⟩
    simp only [Emb.add]
    rw [if_neg (by omega)]
    exact (g.fresh j (by omega)).1
  · show s.wm ≤ s.next + 1
    omega
  · rw [push_size]; have := g.B0; omega
  · show s.next ≤ s.next + 1
    omega
  · rw [hne j (by omega)]; exact h
  · simp only [Emb.add]
    rw [if_neg (by omega)]
    exact h

theorem srcOf_form {z k : Nat} {y y' : Value} {cs : List Value} (r : Rel P B0 φ H w) (h : srcOf H z y = some (cs, k)) (hy : V φ y y') :
    (cs.length = k * z) ∧ ((k = 0 ∧ (y' = .slice none 0 0 ∨ ∃ a cap, y' = .slice (some a) 0 cap)) ∨ ∃ b o cap, y' = .slice (some ⟨b, o, none⟩) k cap ∧
      (k = 0 ∨ ∃ cc el fz, w.heap[b]? = some (.cells cc el fz) ∧ o + k * z ≤ cc.size ∧ VL φ cs ((List.range (k * z)).map fun j => cc.getD (o + j) undf))) := by
  have hl := (srcOf_some r h hy).2.1
  refine ⟨hl, ?_⟩
  unfold srcOf at h
  split at h
  · simp only [Option.some.injEq, Prod.mk.injEq] at h
    obtain ⟨_, rfl⟩ := h
    exact .inl ⟨rfl, .inl (hy.inv_nsl).2.2⟩
  · rename_i a n z'
    obtain ⟨hz, h⟩ := bif_some h
    have hz := Nat.eq_of_beq_eq_true hz
    subst hz
    obtain ⟨cs', hq, hh⟩ := Option.map_eq_some_iff.1 h
    simp only [Prod.mk.injEq] at hh
    obtain ⟨rfl, rfl⟩ := hh
    obtain ⟨i, o, b, δ, sz, cap, o', rfl, hb, h1, h2, h3, h4, rfl⟩ := hy.inv_sl
    obtain ⟨b', p, cc, el, fz, q1, q2, q3, q4⟩ := loadV_some r hq (V.ptr (o := o) hb)
    cases q1
    refine .inr ⟨b, o', cap, rfl, ?_⟩
    rcases h4 with rfl | ⟨rfl, _⟩
    · exact .inr ⟨cc, el, fz, q2, q3, q4⟩
    · exact .inl rfl
  · rename_i z' es
    obtain ⟨hz, hq⟩ := bif_some h
    clear h
    have hz := Nat.eq_of_beq_eq_true hz
    subst hz
    simp only [Option.some.injEq, Prod.mk.injEq] at hq
    obtain ⟨rfl, rfl⟩ := hq
    rcases hy.inv_imsl with ⟨rfl, p1, ad, cap, rfl⟩ | ⟨b, o, cap, cc, rfl, e1, e2, e3, e4, e5, e6⟩
    · exact .inl ⟨rfl, .inr ⟨_, _, rfl⟩⟩
    obtain ⟨el, fz, hw⟩ := r.imo _ _ e1
    refine .inr ⟨b, o, cap, rfl, .inr ⟨cc, el, fz, hw, e4, ?_, fun j hj => ?_⟩⟩
    · simp [hl]
    · have hj' : j < es.length * z' := by omega
      have := e6 j hj'
      simpa [List.getD, hj'] using this
  · cases h

theorem src_of (r : Rel P B0 φ H w) {tx : TypeId} {e' : TypeId} (htx : P.underlying tx = some (.slice e')) {z k : Nat} {y y' : Value} {cs : List Value} (h : srcOf H z y = some (cs, k)) (hy : V φ y y') (h1 : cs.all oneCell = true) :
    ∃ cs', VL φ cs cs' ∧ cs.length = k * z ∧ Src P z tx y' k cs' w := by
  obtain ⟨hl, ⟨rfl, rfl | ⟨ad, cap, rfl⟩⟩ | ⟨b, o, cap, rfl, hk⟩⟩ := srcOf_form r h hy
  · have : cs = [] := List.eq_nil_of_length_eq_zero (by omega)
    subst this
    exact ⟨[], VL.nil φ, by simp, Src.ofNil w htx 0⟩
  · have : cs = [] := List.eq_nil_of_length_eq_zero (by omega)
    subst this
    refine ⟨[], VL.nil φ, by simp, ⟨.inl ⟨e', htx⟩, fun _ => rfl, ?_, ?_, by simp, fun _ h => by cases h⟩⟩ <;> simp [Builtin.firstCells, loadCells, loadCellsFrom]
  · rcases hk with rfl | ⟨cc, el, fz, q1, q2, q3⟩
    · have : cs = [] := List.eq_nil_of_length_eq_zero (by omega)
      subst this
      refine ⟨[], VL.nil φ, by simp, ⟨.inl ⟨e', htx⟩, fun _ => rfl, ?_, ?_, by simp, fun _ h => by cases h⟩⟩ <;> simp [Builtin.firstCells, loadCells, loadCellsFrom]
    · have q1' : w.drew.heap[b]? = some (.cells cc el fz) := q1
      refine ⟨_, q3, hl, ⟨.inl ⟨e', htx⟩, fun _ => rfl, ?_, ?_, by simp, oneCells q3 h1⟩⟩
      · simp only [Builtin.firstCells]; rw [run_loadCells q1 q2]
      · simp only [Builtin.firstCells]; rw [run_loadCells q1' q2]

theorem zeroCells_size (z : Array Value) (n : Nat) : (Builtin.zeroCells z n).size = n * z.size := by simp [Builtin.zeroCells]

theorem cells_pad {φ φ' : Emb} (hx : Ext φ φ') {c c' : List Value} (pad : Array Value) {el : TypeId} (h : VL φ c c') :
    ObjRel P φ' (some (.cells false c)) 0 (c'.toArray ++ pad).size (some (.cells (c'.toArray ++ pad) el (0, 0))) := by
  refine ⟨_, el, (0, 0), rfl, rfl, ?_, fun j hj => ?_, ⟨rfl, rfl⟩⟩
  · have := h.1
    simp
    omega
  · have := (h.2 j hj).mono hx
    have hl : j < c'.length := h.1 ▸ hj
    simpa [Array.getD_eq_getD_getElem?, List.getElem?_append_left hl, Array.getElem?_append, hl] using this

/-- A slice that grows into a new row. -/
theorem append_grow (g : Good P B0 φ s w) {t tx e tt : TypeId} {it : TypeInfo} {zv : Value} (ht : P.underlying t = some (.slice e)) (hi : P.info? e = some it) (hzv : it.zero = some zv)
    (hzc : zv.cells.size = it.size) (hz1 : 1 ≤ it.size) (hb1 : 1 ≤ it.bytes) {base : Option Addr} {len cap k : Nat} {y' : Value} {old new old' new' : List Value}
    (ho : VL φ old old') (hol : old.length = len * it.size) (hold : (Builtin.firstCells it.size len (.slice base len cap)).run P w.drew = .ok old'.toArray w.drew)
    (n1 : VL φ new new') (n2 : new.length = k * it.size) (n3 : Src P it.size tx y' k new' w) (hg : cap < len + k) (hfit : (len + k) * it.bytes ≤ 70368744177664) :
    ∃ v' φ' w', (Builtin.append_ #[t, tx] tt #[.slice base len cap, y']).run P w = .ok v' w' ∧
      Step P B0 φ s w φ' ((s.bump 1).put s.next (.cells false (old ++ new))) w' ∧ V φ' (.slice (some ⟨s.next, 0, none⟩) (len + k) it.size) v' := by
  have hle : len + k ≤ (len + k) * it.bytes := Nat.le_mul_of_pos_right _ hb1
  have hrun := run_append_grow_src (P := P) w t tx tt e it zv ht hi hzv base len cap old' hold y' k new' n3 hg (by omega) (growslice_fits hg (by omega))
  have hge := grownCap_ge w (len + k) cap e
  generalize grownCap w (len + k) cap e = nc at hrun hge
  have hn : φ.blk s.next = none := (g.fresh _ (Nat.le_refl _)).1
  have hlen : ((old' ++ new').toArray ++ Builtin.zeroCells zv.cells (nc - (len + k))).size = nc * it.size := by
    have h1 := ho.1
    have h2 := n1.1
    have h3 : (len + k) * it.size + (nc - (len + k)) * it.size = nc * it.size := by rw [← Nat.add_mul]; congr 1; omega
    have h4 : (len + k) * it.size = len * it.size + k * it.size := Nat.add_mul _ _ _
    simp only [Array.size_append, List.size_toArray, List.length_append, zeroCells_size, hzc]
    omega
  have hst := Step.new (g.drew) (o := .cells false (old ++ new)) (co := .cells ((old' ++ new').toArray ++ Builtin.zeroCells zv.cells (nc - (len + k))) e (0, 0))
    (sz := nc * it.size) (by
      have h5 := cells_pad (P := P) (el := e) (Emb.add_ext hn w.heap.size 0 (nc * it.size)) (Builtin.zeroCells zv.cells (nc - (len + k))) (ho.append n1)
      rw [hlen] at h5
      exact h5)
  refine ⟨_, _, _, hrun, (Step.drew g).trans hst, ?_⟩
  refine .sl (b := w.heap.size) (δ := 0) (sz := nc * it.size) ?_ hge (by omega) hz1 (.inl rfl)
  simp [Emb.add, drew1]

theorem sim_append (g : Good P B0 φ s w) {t tx e e' tt : TypeId} {z b : Nat} {x x' y y' v : Value} {s' : St} (ht : P.underlying t = some (.slice e)) (htx : P.underlying tx = some (.slice e'))
    (hz : sizeIs P e z = true) (hby : bytesIs P e b = true) (hz1 : 1 ≤ z) (hb1 : 1 ≤ b) (hzz : (P.info? e).any (·.zero.isSome) = true) (hzs : ∀ i zv, P.info? e = some i → i.zero = some zv → zv.cells.size = z)
    (hx : V φ x x') (hy : V φ y y') (h : opAppend s z b x y = some (v, s')) :
    ∃ v' φ' w', (Builtin.append_ #[t, tx] tt #[x', y']).run P w = .ok v' w' ∧ Step P B0 φ s w φ' s' w' ∧ V φ' v v' := by
  have hm : mostBytes = 70368744177664 := by decide
  cases hi : P.info? e with
  | none => simp [hi] at hzz
  | some it =>
  simp only [hi, Option.any_some] at hzz
  obtain ⟨zv, hzv⟩ := Option.isSome_iff_exists.1 hzz
  have hzc := hzs it zv hi hzv
  have hsz : it.size = z := by
    unfold sizeIs at hz; rw [hi] at hz; exact Nat.eq_of_beq_eq_true hz
  have hbs : it.bytes = b := by
    unfold bytesIs at hby; rw [hi] at hby; exact Nat.eq_of_beq_eq_true hby
  unfold opAppend at h
  split at h
  · cases h
  rename_i new k hs
  obtain ⟨hone, h⟩ : (new.all oneCell = true) ∧ _ := by
    cases ho : new.all oneCell with
    | false => rw [ho] at h; simp at h
    | true => rw [ho] at h; exact ⟨rfl, h⟩
  simp only [Bool.not_true, cond_false] at h
  obtain ⟨new', n1, n2, n3⟩ := src_of g.rel htx hs hy hone
  split at h
  · obtain ⟨_, _, rfl⟩ := hx.inv_nsl
    obtain ⟨hg, h⟩ := bif_some h
    simp only [Bool.and_eq_true] at hg
    have g1 := Nat.le_of_ble_eq_true hg.1
    have g2 := Nat.le_of_ble_eq_true hg.2
    rw [hm] at g1 g2
    cases hk : Nat.beq k 0 with
    | true =>
      rw [hk] at h
      have hk := Nat.eq_of_beq_eq_true hk
      subst hk
      simp only [cond_true, Option.some.injEq, Prod.mk.injEq] at h
      obtain ⟨rfl, rfl⟩ := h
      refine ⟨_, φ, w, ?_, Step.refl g, .nsl⟩
      have := n3.cells
      simp [Builtin.append_, run_underlying ht, run_underlying htx, sizeOf, typeInfo, hi, n3.len, hsz, this]
    | false =>
      rw [hk] at h
      have hk0 : k ≠ 0 := by rintro rfl; cases hk
      simp only [cond_false, Option.some.injEq, Prod.mk.injEq] at h
      obtain ⟨rfl, rfl⟩ := h
      obtain ⟨v', φ', w', r1, r2, r3⟩ := append_grow (old := []) (old' := []) (len := 0) (cap := 0) (base := none) (tt := tt) g ht hi hzv (by omega) (by omega) (by omega) (VL.nil φ) (by simp)
        (by simp [Builtin.firstCells]) n1 (by rw [hsz]; exact n2) (by rw [hsz]; exact n3) (by omega) (by rw [hbs, Nat.zero_add]; omega)
      rw [hsz] at r3
      simp only [Nat.zero_add, List.nil_append] at r2 r3
      exact ⟨v', φ', w', r1, r2, r3⟩
  · rename_i a len zz _
    obtain ⟨hg, hq⟩ := bif_some h
    clear h
    have h := hq
    clear hq
    simp only [Bool.and_eq_true] at hg
    obtain ⟨⟨⟨g1, g2⟩, g3⟩, g4⟩ := hg
    have g1 := Nat.le_of_ble_eq_true g1
    have g2 := Nat.le_of_ble_eq_true g2
    have g3 := Nat.eq_of_beq_eq_true g3
    have g4 := Nat.le_of_ble_eq_true g4
    rw [hm] at g1 g2
    subst g3
    obtain ⟨i, o, bb, δ, sz, cap, o', rfl, hbk, c1, c2, c3, c4, rfl⟩ := hx.inv_sl
    dsimp only at h g4
    split at h
    · rename_i cs0 old hget hold
      simp only [Option.some.injEq, Prod.mk.injEq] at h
      obtain ⟨rfl, rfl⟩ := h
      obtain ⟨b', p, cc, el, fz, q1, q2, q3, q4⟩ := loadV_some g.rel hold (V.ptr (o := o) hbk)
      cases q1
      have hol : old.length = len * zz := by simpa using q4.1
      have hO := g.rel.obj _ _ _ _ hbk
      rw [hget] at hO
      obtain ⟨cc1, el1, fz1, a1, a2, a3, a4, a5⟩ := hO
      have a5 := a5.2
      subst a5
      rw [q2] at a1
      cases a1
      by_cases hroom : len + k ≤ cap
      · have hlz : len * zz + k * zz ≤ cap * zz := by rw [← Nat.add_mul]; exact Nat.mul_le_mul_right _ hroom
        have hfit : o' + len * zz + new'.length ≤ cc.size := by
          have h1 := n1.1
          rw [a2]
          omega
        have hst := run_storeCells_at (P := P) bb (o' + len * zz) el new' 0 cc w q2 (by simpa using hfit) n3.one
        simp only [Nat.add_zero] at hst
        rw [setRow_setB q2] at hst
        have hrun : (Builtin.append_ #[t, tx] tt #[.slice (some ⟨bb, o', none⟩) len cap, y']).run P w =
            .ok (.slice (some ⟨bb, o', none⟩) (len + k) cap) (setB w bb (.cells (cc.toList.take (o' + len * zz) ++ new' ++ cc.toList.drop (o' + len * zz + new'.length)).toArray el (0, 0))) := by
          simp [Builtin.append_, run_underlying ht, run_underlying htx, sizeOf, typeInfo, hi, hsz, n3.len, hroom, n3.cells, Addr.add_lit, hst]
        refine ⟨_, _, _, hrun, Step.adopt g hbk (by rw [hget]; rfl) g4 (o' := o') (c := old ++ new) ⟨_, el, (0, 0), rfl, ?_, ?_, fun j hj => ?_, ⟨rfl, rfl⟩⟩, ?_⟩
        · simp
          omega
        · rw [List.length_append, hol, n2]
          omega
        · rw [List.length_append, hol, n2] at hj
          have key : ∀ q, ((cc.toList.take (o' + len * zz) ++ new' ++ cc.toList.drop (o' + len * zz + new'.length)).toArray).getD q undf =
              if q < o' + len * zz then cc.getD q undf else if q < o' + len * zz + new'.length then new'.getD (q - (o' + len * zz)) undf else cc.getD q undf := by
            intro q
            simp only [Array.getD_eq_getD_getElem?, List.getElem?_toArray]
            have hlen : (cc.toList.take (o' + len * zz)).length = o' + len * zz := by simp; omega
            by_cases k1 : q < o' + len * zz
            · rw [if_pos k1, List.append_assoc, List.getElem?_append_left (by omega), List.getElem?_take, if_pos k1]
              simp
            · rw [if_neg k1]
              by_cases k2 : q < o' + len * zz + new'.length
              · rw [if_pos k2, List.append_assoc, List.getElem?_append_right (by omega), hlen, List.getElem?_append_left (by omega)]
                simp [List.getD]
              · rw [if_neg k2, List.getElem?_append_right (by simp; omega)]
                simp only [List.length_append, hlen, List.getElem?_drop, Array.getElem?_toList]
                congr 2
                omega
          have hn : φ.blk s.next = none := (g.fresh _ (Nat.le_refl _)).1
          refine V.mono (Emb.add_ext hn bb o' sz) ?_
          have h1 := n1.1
          rw [key]
          by_cases j1 : j < len * zz
          · rw [if_pos (by omega)]
            have h2 := q4.2 j (by omega)
            have ho' : o' = δ + o := by
              rcases c4 with h | ⟨rfl, _⟩
              · exact h
              · simp at j1
            subst ho'
            simpa [List.getD, List.getElem?_append_left, hol, j1] using h2
          · rw [if_neg (by omega), if_pos (by omega)]
            have h2 := n1.2 (j - len * zz) (by omega)
            have e1 : o' + j - (o' + len * zz) = j - len * zz := by omega
            rw [e1]
            have e2 : (old ++ new).getD j undf = new.getD (j - len * zz) undf := by
              simp only [List.getD]
              rw [List.getElem?_append_right (by omega), hol]
            rw [e2]
            exact h2
        · refine .sl (b := bb) (δ := o') (sz := sz) ?_ hroom c2 c3 (.inl rfl)
          simp [Emb.add]
      · have gk := Step.kill g hbk g4 (by rw [hget]; simp)
        have hold' : (Builtin.firstCells it.size len (.slice (some ⟨bb, o', none⟩) len cap)).run P w.drew = .ok (((List.range (len * zz)).map fun j => cc.getD (δ + o + j) undf).toArray) w.drew := by
          have q2' : w.drew.heap[bb]? = some (.cells cc el (0, 0)) := q2
          simp only [Builtin.firstCells, hsz]
          rcases c4 with rfl | ⟨rfl, _⟩
          · rw [run_loadCells q2' q3]
          · simp [loadCells, loadCellsFrom]
        obtain ⟨v', φ', w', r1, r2, r3⟩ := append_grow (old := old) (len := len) (cap := cap) (base := some ⟨bb, o', none⟩) (tt := tt) gk.good ht hi hzv (by omega) (by omega) (by omega) q4 (by rw [hsz]; exact hol)
          hold' n1 (by rw [hsz]; exact n2) (by rw [hsz]; exact n3) (by omega) (by rw [hbs]; omega)
        rw [hsz] at r3
        exact ⟨v', φ', w', r1, gk.trans r2, r3⟩
    · cases h
  · cases h

end
end Go.Ev

namespace Go.Ev

def isCall : EOp → Bool
  | .call .. => true
  | _ => false

section
variable {P : Program} {φ : Emb} {H : Get} {w : World} {B0 : Nat} {s : St} {F : Fr} {ρ : Operand → Value}

theorem eqC_map {t : TypeId} {q : EqT} (h : (match mapOfT P t with
    | some (kt, _) => eqC P kt q
    | none => false) = true) : ∃ kt et, P.underlying t = some (.map kt et) ∧ EqSpec P kt q := by
  split at h
  · rename_i kt et hm
    exact ⟨kt, et, mapOfT_some hm, eqC_spec h⟩
  · cases h

/-- What an operation comes to: a value, or nothing. -/
def okVal (r : Result Next) (v : Value) (w : World) : Prop := r = .ok (.value v) w ∨ (r = .ok .skip w ∧ v = undf)

theorem sim_e0 {call : CallF} (g : Good P B0 φ s w) {o : Oper} {x : EOp} {v : Value} {s' : St} (hc : eC P o.op x = true) (hn : isCall x = false) (hev : EvR φ F ρ o.op.operands.toList)
    (h : evE call F s x = some (v, s')) : ∃ v' φ' w', okVal ((execOp ρ o).run P w) v' w' ∧ Step P B0 φ s w φ' s' w' ∧ V φ' v v' := by
  obtain ⟨dst, op, type, pos, after, guard⟩ := o
  dsimp only at hc hev ⊢
  unfold eC at hc
  split at hc
  · rename_i t a y n a' y'
    simp only [Bool.and_eq_true] at hc
    obtain ⟨w', r1, r2, r3⟩ := sim_store g hc.1.1 (hev a (by simp [Op.operands]) a' hc.1.2) (hev y (by simp [Op.operands]) y' hc.2) h
    subst r3
    exact ⟨undf, φ, w', .inr ⟨by simp [execOp, r1], rfl⟩, r2, .tuple' (VL.nil φ)⟩
  · rename_i t m k y q m' k' y'
    simp only [Bool.and_eq_true] at hc
    obtain ⟨kt, et, h1, h2⟩ := eqC_map hc.1.1.1
    obtain ⟨w', r1, r2, r3⟩ := sim_mapUpdate g h1 h2 (hev m (by simp [Op.operands]) m' hc.1.1.2) (hev k (by simp [Op.operands]) k' hc.1.2) (hev y (by simp [Op.operands]) y' hc.2) h
    subst r3
    exact ⟨undf, φ, w', .inr ⟨by simp [execOp, r1], rfl⟩, r2, .tuple' (VL.nil φ)⟩
  · rename_i t m k y q m' k' y'
    simp only [Bool.and_eq_true] at hc
    obtain ⟨kt, et, h1, h2⟩ := eqC_map hc.1.1.1
    obtain ⟨w', r1, r2, r3⟩ := sim_mapUpdate g h1 h2 (hev m (by simp [Op.operands]) m' hc.1.1.2) (hev k (by simp [Op.operands]) k' hc.1.2) (hev y (by simp [Op.operands]) y' hc.2) h
    subst r3
    exact ⟨undf, φ, w', .inr ⟨by simp [execOp, r1], rfl⟩, r2, .tuple' (VL.nil φ)⟩
  · cases hn
  · rename_i args argTypes z b x' y'
    split at hc
    · rename_i x y t u e1 e2
      simp only [Bool.and_eq_true] at hc
      obtain ⟨⟨⟨hs, hu⟩, hx⟩, hy⟩ := hc
      split at hs
      · rename_i e hse
        simp only [Bool.and_eq_true] at hs
        obtain ⟨⟨⟨⟨s1, s2⟩, s3⟩, s4⟩, s5⟩ := hs
        have a1 : args = #[x, y] := by rw [← Array.toList_inj]; simpa using e1
        have a2 : argTypes = #[t, u] := by rw [← Array.toList_inj]; simpa using e2
        subst a1 a2
        obtain ⟨e', hu'⟩ : ∃ e', P.underlying u = some (.slice e') := by
          split at hu
          · exact ⟨_, by assumption⟩
          · cases hu
        obtain ⟨v', φ', w', r1, r2, r3⟩ := sim_append (tt := type) g (sliceOf_some hse) hu' s1 s2 (Nat.le_of_ble_eq_true s3) (Nat.le_of_ble_eq_true s4)
          (by
            cases hi : P.info? e with
            | none => rw [hi] at s5; cases s5
            | some i =>
              rw [hi] at s5
              simp only [Option.any_some] at s5 ⊢
              split at s5
              · rename_i hz; rw [hz]; rfl
              · cases s5)
          (fun i zv h1 h2 => by
            rw [h1] at s5
            simp only [Option.any_some, h2] at s5
            exact Nat.eq_of_beq_eq_true s5)
          (hev x (by simp [Op.operands, Call.operands]) x' hx) (hev y (by simp [Op.operands, Call.operands]) y' hy) h
        exact ⟨v', φ', w', .inl (by simp [execOp, resolve, invoke, builtin, r1]), r2, r3⟩
      · cases hs
    · cases hc
  · rename_i args argTypes z x' y'
    split at hc
    · rename_i x y t u e1 e2
      simp only [Bool.and_eq_true] at hc
      obtain ⟨⟨hs, hx⟩, hy⟩ := hc
      split at hs
      · rename_i e hse
        have a1 : args = #[x, y] := by rw [← Array.toList_inj]; simpa using e1
        have a2 : argTypes = #[t, u] := by rw [← Array.toList_inj]; simpa using e2
        subst a1 a2
        obtain ⟨w', r1, r2, r3⟩ := sim_copy (tt := type) (us := [u]) g (sliceOf_some hse) hs
          (hev x (by simp [Op.operands, Call.operands]) x' hx) (hev y (by simp [Op.operands, Call.operands]) y' hy) h
        exact ⟨v, φ, w', .inl (by simp [execOp, resolve, invoke, builtin, r1]), r2, r3⟩
      · cases hs
    · cases hc
  · rename_i args argTypes q x' y'
    split at hc
    · rename_i x y t u e1 e2
      simp only [Bool.and_eq_true] at hc
      obtain ⟨⟨hs, hx⟩, hy⟩ := hc
      obtain ⟨kt, et, h1, h2⟩ := eqC_map hs
      have a1 : args = #[x, y] := by rw [← Array.toList_inj]; simpa using e1
      have a2 : argTypes = #[t, u] := by rw [← Array.toList_inj]; simpa using e2
      subst a1 a2
      obtain ⟨w', r1, r2, r3⟩ := sim_delete (tt := type) (us := [u]) g h1 h2 (hev x (by simp [Op.operands, Call.operands]) x' hx) (hev y (by simp [Op.operands, Call.operands]) y' hy) h
      subst r3
      exact ⟨undf, φ, w', .inl (by simp [execOp, resolve, invoke, builtin, r1]), r2, .tuple' (VL.nil φ)⟩
    · cases hc
  · cases hc

end
end Go.Ev

namespace Go.Ev

/-! ### One operation -/
def evStep (call : CallF) (base : Nat) (o : CO) (F : Fr) (s : St) : Option (Value × St) :=
  match o.op with
  | .p x => (gd (guardOk F o.guard) (evP s.get F x) undf).map fun v => (v, s)
  | .a r x => (evA F (base + r) x).map fun q => (q.1, s.put (base + r) q.2)
  | .e x => gd (guardOk F o.guard) (evE call F s x) (undf, s)

def seqAt (call : CallF) (base : Nat) : List CO → Fr → St → Nat → Fr × St
  | _, F, s, 0 => (F, s)
  | [], F, s, _ + 1 => (F, s)
  | o :: os, F, s, i + 1 =>
    match evStep call base o F s with
    | some (v, s') => seqAt call base os (putO F o.dst v) s' i
    | none => (F, s)

section
variable {R : Type} {call : CallF} {base : Nat} {K : Fr → St → Option R}

theorem bindV_some {o : Option Value} {k : Value → Option R} {r : R} (h : bindV o k = some r) : ∃ v, o = some v ∧ k v = some r := by
  cases o with
  | none => cases h
  | some v => exact ⟨v, rfl, by simpa [bindV, fVal_eq] using h⟩
theorem bindA_some {o : Option (Value × IObj)} {k : Value → IObj → Option R} {r : R} (h : bindA o k = some r) : ∃ v ob, o = some (v, ob) ∧ k v ob = some r := by
  cases o with
  | none => cases h
  | some q => exact ⟨q.1, q.2, rfl, by simpa [bindA, fVal_eq, fObj_eq] using h⟩
theorem bindE_some {o : Option (Value × St)} {k : Value → St → Option R} {r : R} (h : bindE o k = some r) : ∃ v s, o = some (v, s) ∧ k v s = some r := by
  cases o with
  | none => cases h
  | some q =>
    obtain ⟨v, n, wm, hp⟩ := q
    refine ⟨v, ⟨n, wm, hp⟩, rfl, ?_⟩
    cases hp <;> simpa [bindE, fVal_eq] using h
theorem check_some {b : Bool} {k : Option R} {r : R} (h : check b k = some r) : b = true ∧ k = some r := by
  cases b with
  | false => cases h
  | true => exact ⟨rfl, h⟩
theorem chkL_some {g : Option Bool} {p : Value} {n m : Nat} {s : St} {prev : List St} {k : Option Ld → Option R} {r : R} (h : chkL g p n m s prev k = some r) :
    (g = some false ∧ k none = some r) ∨ ∃ vs, g = some true ∧ loadV s.get p n = some vs ∧ prevOk m prev ⟨p, n, vs⟩ = true ∧ k (some ⟨p, n, vs⟩) = some r := by
  unfold chkL at h
  split at h
  · cases h
  · exact .inl ⟨rfl, h⟩
  · split at h
    · cases h
    · rename_i vs hl
      obtain ⟨h1, h2⟩ := check_some h
      exact .inr ⟨vs, rfl, hl, h1, h2⟩

theorem evOps_p {d : Option Nat} {x : POp} {g : Option (Nat × Bool)} {os : List CO} {F : Fr} {s : St} {prev : List St} {pend : Pend} {r : R}
    (h : evOps call base K (⟨d, .p x, g, none⟩ :: os) F s prev pend = some r) :
    ∃ v, gd (guardOk F g) (evP s.get F x) undf = some v ∧ evOps call base K os (putO F d v) s prev pend = some r := by
  cases g with
  | some g => cases x <;> exact bindV_some h
  | none =>
    cases x
    case move x => exact ⟨x.ev F, rfl, h⟩
    all_goals exact bindV_some h

/-- What stands behind the first operation: what is asked of the states ahead, of the loads that wait. -/
theorem evOps_cons {o : CO} {os : List CO} {F : Fr} {s : St} {prev : List St} {pend : Pend} {r : R} (h : evOps call base K (o :: os) F s prev pend = some r) :
    ∃ v s' prev' pend', evStep call base o F s = some (v, s') ∧ evOps call base K os (putO F o.dst v) s' prev' pend' = some r ∧
      prev' = (bif isEff o.op then s :: prev else prev) ∧
      (isEff o.op = true → pendOk s' pend = true ∧ pend' = passed pend) ∧
      (isEff o.op = false → ∀ x ∈ pend, x ∈ pend') ∧
      (∀ x m k p n, o.op = .p x → o.chk = some (m, k) → loadOf F x = some (p, n) → guardOk F o.guard = some true →
        ∃ vs, loadV s.get p n = some vs ∧ prevOk m prev ⟨p, n, vs⟩ = true ∧ (0 < k → (k, some ⟨p, n, vs⟩) ∈ pend')) := by
  obtain ⟨d, op, g, chk⟩ := o
  cases op with
  | p x =>
    cases chk with
    | none =>
      obtain ⟨v, h1, h2⟩ := evOps_p h
      exact ⟨v, s, prev, pend, by simp [evStep, h1], h2, rfl, (fun h => by cases h), fun _ x h => h, (fun y m k p n _ h2 => by cases h2)⟩
    | some mk =>
      obtain ⟨m, k⟩ := mk
      have h' : bindV (gd (guardOk F g) (evP s.get F x) undf) (fun v =>
          match loadOf F x with
          | none => none
          | some (p, n) => chkL (guardOk F g) p n m s prev fun ld => evOps call base K os (putO F d v) s prev (bif Nat.beq k 0 then pend else (k, ld) :: pend)) = some r := by
        cases g <;> cases x <;> exact h
      obtain ⟨v, h1, h2⟩ := bindV_some h'
      split at h2
      · cases h2
      · rename_i p n hl
        rcases chkL_some h2 with ⟨hg, h3⟩ | ⟨vs, hg, h3, h4, h5⟩
        · refine ⟨v, s, prev, _, by simp [evStep, h1], h3, rfl, (fun h => by cases h), fun _ x hx => ?_, fun y m' k' p' n' _ _ _ h6 => by rw [hg] at h6; cases h6⟩
          cases Nat.beq k 0 <;> simp [hx]
        · refine ⟨v, s, prev, _, by simp [evStep, h1], h5, rfl, (fun h => by cases h), fun _ x hx => ?_, fun y m' k' p' n' e1 e2 e3 _ => ?_⟩
          · cases Nat.beq k 0 <;> simp [hx]
          · cases e1
            simp only [Option.some.injEq, Prod.mk.injEq] at e2
            obtain ⟨rfl, rfl⟩ := e2
            rw [hl] at e3
            simp only [Option.some.injEq, Prod.mk.injEq] at e3
            obtain ⟨rfl, rfl⟩ := e3
            refine ⟨vs, h3, h4, fun hk => ?_⟩
            have : Nat.beq k 0 = false := by
              cases hb : Nat.beq k 0 with
              | false => rfl
              | true => have := Nat.eq_of_beq_eq_true hb; omega
            simp [this]
  | a rk x =>
    cases chk with
    | some _ => cases g <;> cases h
    | none =>
      cases g with
      | some _ => cases h
      | none =>
        have h' : (fNat (base + rk) fun id => bindA (evA F id x) fun v ob => putK s id ob fun s' => evOps call base K os (putO F d v) s' prev pend) = some r := h
        rw [fNat_eq] at h'
        obtain ⟨v, ob, h1, h2⟩ := bindA_some h'
        rw [putK_eq] at h2
        exact ⟨v, s.put (base + rk) ob, prev, pend, by simp [evStep, h1], h2, rfl, (fun h => by cases h), fun _ x h => h, fun y m k p n h1 => by cases h1⟩
  | e x =>
    cases chk with
    | some _ => cases g <;> cases h
    | none =>
      have h' : bindE (gd (guardOk F g) (evE call F s x) (undf, s)) (fun v s' => check (pendOk s' pend) (evOps call base K os (putO F d v) s' (s :: prev) (passed pend))) = some r := by
        cases g <;> exact h
      obtain ⟨v, s', h1, h2⟩ := bindE_some h'
      obtain ⟨h3, h4⟩ := check_some h2
      exact ⟨v, s', s :: prev, passed pend, by simp [evStep, h1], h4, rfl, fun _ => ⟨h3, rfl⟩, (fun h => by cases h), fun y m k p n h1 => by cases h1⟩

theorem evOps_nil {F : Fr} {s : St} {prev : List St} {pend : Pend} {r : R} (h : evOps call base K [] F s prev pend = some r) : K F s = some r := h

theorem evOps_at : ∀ (cops : List CO) {F : Fr} {s : St} {prev : List St} {pend : Pend} {r : R} (i : Nat), evOps call base K cops F s prev pend = some r → i ≤ cops.length →
    ∃ prev' pend', evOps call base K (cops.drop i) (seqAt call base cops F s i).1 (seqAt call base cops F s i).2 prev' pend' = some r
  | cops, F, s, prev, pend, r, 0, h, _ => ⟨prev, pend, by simpa [seqAt] using h⟩
  | [], F, s, prev, pend, r, i + 1, h, hi => by simp at hi
  | o :: os, F, s, prev, pend, r, i + 1, h, hi => by
    obtain ⟨v, s', prev', pend', h1, h2, _⟩ := evOps_cons h
    simp only [seqAt, h1, List.drop_succ_cons]
    exact evOps_at os i h2 (by simpa using hi)

theorem seqAt_succ : ∀ (cops : List CO) {F : Fr} {s : St} {prev : List St} {pend : Pend} {r : R} (i : Nat) (o : CO), evOps call base K cops F s prev pend = some r → cops[i]? = some o →
    ∃ v s', evStep call base o (seqAt call base cops F s i).1 (seqAt call base cops F s i).2 = some (v, s') ∧
      seqAt call base cops F s (i + 1) = (putO (seqAt call base cops F s i).1 o.dst v, s')
  | [], F, s, prev, pend, r, i, o, h, hi => by simp at hi
  | o' :: os, F, s, prev, pend, r, 0, o, h, hi => by
    simp only [List.getElem?_cons_zero, Option.some.injEq] at hi
    subst hi
    obtain ⟨v, s', prev', pend', h1, h2, _⟩ := evOps_cons h
    refine ⟨v, s', by simpa [seqAt] using h1, ?_⟩
    cases os <;> simp [seqAt, h1]
  | o' :: os, F, s, prev, pend, r, i + 1, o, h, hi => by
    obtain ⟨v, s', prev', pend', h1, h2, _⟩ := evOps_cons h
    obtain ⟨v2, s2, e1, e2⟩ := seqAt_succ os i o h2 (by simpa using hi)
    refine ⟨v2, s2, ?_, ?_⟩
    · simpa [seqAt, h1] using e1
    · simpa [seqAt, h1] using e2

theorem seqAt_end (cops : List CO) {F : Fr} {s : St} {prev : List St} {pend : Pend} {r : R} (h : evOps call base K cops F s prev pend = some r) :
    K (seqAt call base cops F s cops.length).1 (seqAt call base cops F s cops.length).2 = some r := by
  obtain ⟨_, _, h1⟩ := evOps_at cops cops.length h (Nat.le_refl _)
  rw [List.drop_length] at h1
  exact h1

theorem pendOk_mem : ∀ {pend : Pend} {s : St} {c : Nat} {x : Ld}, pendOk s pend = true → (c, some x) ∈ pend → sameLoad s x = true
  | [], _, _, _, _, h => by cases h
  | (_, none) :: r, s, c, x, h, hm => by
    cases hm with
    | tail _ hm => exact pendOk_mem (by simpa [pendOk] using h) hm
  | (_, some y) :: r, s, c, x, h, hm => by
    simp only [pendOk, Bool.and_eq_true] at h
    cases hm with
    | head => exact h.1
    | tail _ hm => exact pendOk_mem h.2 hm

theorem passed_mem : ∀ {pend : Pend} {c : Nat} {x : Option Ld}, (c + 2, x) ∈ pend → (c + 1, x) ∈ passed pend
  | [], _, _, h => by cases h
  | (0, _) :: r, c, x, h => by
    cases h with
    | tail _ h => exact passed_mem (pend := r) h
  | (1, _) :: r, c, x, h => by
    cases h with
    | tail _ h => exact passed_mem (pend := r) h
  | (n + 2, y) :: r, c, x, h => by
    cases h with
    | head => exact List.mem_cons_self
    | tail _ h => exact List.mem_cons_of_mem _ (passed_mem (pend := r) h)

/-- A load that waits: behind each effect that its check covers it reads the same. -/
theorem pend_same : ∀ (cops : List CO) {F : Fr} {s : St} {prev : List St} {pend : Pend} {r : R} (j c : Nat) (o : CO) (x : Ld), evOps call base K cops F s prev pend = some r → (c, some x) ∈ pend →
    cops[j]? = some o → isEff o.op = true → cntL cops (j + 1) ≤ c → sameLoad (seqAt call base cops F s (j + 1)).2 x = true
  | [], F, s, prev, pend, r, j, c, o, x, h, hp, hj, _, _ => by simp at hj
  | o' :: os, F, s, prev, pend, r, 0, c, o, x, h, hp, hj, ho, hc => by
    simp only [List.getElem?_cons_zero, Option.some.injEq] at hj
    subst hj
    obtain ⟨v, s', prev', pend', h1, h2, h3, h4, _⟩ := evOps_cons h
    have := pendOk_mem (h4 ho).1 hp
    have e : (seqAt call base (o' :: os) F s (0 + 1)).2 = s' := by cases os <;> simp [seqAt, h1]
    rw [e]
    exact this
  | o' :: os, F, s, prev, pend, r, j + 1, c, o, x, h, hp, hj, ho, hc => by
    obtain ⟨v, s', prev', pend', h1, h2, h3, h4, h5, _⟩ := evOps_cons h
    simp only [seqAt, h1]
    have hj' : os[j]? = some o := by simpa using hj
    have hpos : 1 ≤ cntL os (j + 1) := by
      clear h h1 h2 hc hj
      induction os generalizing j with
      | nil => simp at hj'
      | cons a as ih =>
        cases j with
        | zero =>
          simp only [List.getElem?_cons_zero, Option.some.injEq] at hj'
          subst hj'
          simp [cntL, ho]
        | succ j => have := ih j (by simpa using hj'); simp only [cntL] at this ⊢; omega
    cases he : isEff o'.op with
    | false =>
      simp only [cntL, he, cond_false, Nat.zero_add] at hc
      exact pend_same os j c o x h2 (h5 he _ hp) hj' ho hc
    | true =>
      have hc' : 1 + cntL os (j + 1) ≤ c := by simpa [cntL, he] using hc
      obtain ⟨c', rfl⟩ : ∃ c', c = c' + 2 := ⟨c - 2, by omega⟩
      refine pend_same os j (c' + 1) o x h2 ?_ hj' ho (by omega)
      rw [(h4 he).2]
      exact passed_mem hp

theorem prevOk_get : ∀ {m : Nat} {l : List St} {x : Ld} {q : Nat} {st : St}, prevOk m l x = true → l[q]? = some st → q < m → sameLoad st x = true
  | 0, _, _, _, _, _, _, h => absurd h (Nat.not_lt_zero _)
  | m + 1, [], _, _, _, _, h, _ => by simp at h
  | m + 1, s :: r, x, 0, st, h, hq, _ => by
    simp only [List.getElem?_cons_zero, Option.some.injEq] at hq
    subst hq
    simp only [prevOk, Bool.and_eq_true] at h
    exact h.1
  | m + 1, s :: r, x, q + 1, st, h, hq, hm => by
    simp only [prevOk, Bool.and_eq_true] at h
    exact prevOk_get h.2 (by simpa using hq) (by omega)

/-- A load reads the same ahead of each effect that its check covers. -/
theorem prev_same : ∀ (cops : List CO) {F : Fr} {s : St} {prev : List St} {pend : Pend} {r : R} (i q : Nat) (o : CO) (st : St) (x : POp) (m k : Nat) (p : Value) (n : Nat),
    evOps call base K cops F s prev pend = some r → prev[q]? = some st → cops[i]? = some o → o.op = .p x → o.chk = some (m, k) → loadOf (seqAt call base cops F s i).1 x = some (p, n) →
    guardOk (seqAt call base cops F s i).1 o.guard = some true → cntL cops i + q < m →
    ∃ vs, loadV (seqAt call base cops F s i).2.get p n = some vs ∧ sameLoad st ⟨p, n, vs⟩ = true
  | [], F, s, prev, pend, r, i, q, o, st, x, m, k, p, n, h, hq, hi, h1, h2, h3, h4, h5 => by simp at hi
  | o' :: os, F, s, prev, pend, r, 0, q, o, st, x, m, k, p, n, h, hq, hi, h1, h2, h3, h4, h5 => by
    simp only [List.getElem?_cons_zero, Option.some.injEq] at hi
    subst hi
    obtain ⟨v, s', prev', pend', e1, e2, e3, e4, e5, e6⟩ := evOps_cons h
    obtain ⟨vs, f1, f2, _⟩ := e6 x m k p n h1 h2 h3 h4
    refine ⟨vs, f1, prevOk_get f2 hq ?_⟩
    simp only [cntL, Nat.zero_add] at h5
    exact h5
  | o' :: os, F, s, prev, pend, r, i + 1, q, o, st, x, m, k, p, n, h, hq, hi, h1, h2, h3, h4, h5 => by
    obtain ⟨v, s', prev', pend', e1, e2, e3, e4, e5, e6⟩ := evOps_cons h
    simp only [seqAt, e1] at h3 h4 ⊢
    cases he : isEff o'.op with
    | false =>
      simp only [cntL, he, cond_false, Nat.zero_add] at h5
      exact prev_same os i q o st x m k p n e2 (by rw [e3, he]; exact hq) (by simpa using hi) h1 h2 h3 h4 h5
    | true =>
      simp only [cntL, he, cond_true] at h5
      exact prev_same os i (q + 1) o st x m k p n e2 (by rw [e3, he]; simpa using hq) (by simpa using hi) h1 h2 h3 h4 (by omega)

theorem seqAt_add : ∀ (cops : List CO) {F : Fr} {s : St} {prev : List St} {pend : Pend} {r : R} (i j : Nat), evOps call base K cops F s prev pend = some r → i + j ≤ cops.length →
    seqAt call base (cops.drop i) (seqAt call base cops F s i).1 (seqAt call base cops F s i).2 j = seqAt call base cops F s (i + j)
  | cops, F, s, prev, pend, r, 0, j, h, _ => by simp [seqAt]
  | [], F, s, prev, pend, r, i + 1, j, h, hi => by simp at hi
  | o :: os, F, s, prev, pend, r, i + 1, j, h, hi => by
    obtain ⟨v, s', prev', pend', h1, h2, _⟩ := evOps_cons h
    have : i + 1 + j = (i + j) + 1 := by omega
    rw [this]
    simp only [seqAt, h1, List.drop_succ_cons]
    exact seqAt_add os i j h2 (by simp at hi; omega)

/-- The check of a load at i, for an effect j behind it. -/
theorem load_behind {cops : List CO} {F : Fr} {s : St} {prev : List St} {pend : Pend} {r : R} (h : evOps call base K cops F s prev pend = some r) {i j m k n : Nat} {o o' : CO} {x : POp} {p : Value}
    (hi : cops[i]? = some o) (hj : cops[j]? = some o') (hij : i < j) (he : isEff o'.op = true) (h1 : o.op = .p x) (h2 : o.chk = some (m, k))
    (h3 : loadOf (seqAt call base cops F s i).1 x = some (p, n)) (h4 : guardOk (seqAt call base cops F s i).1 o.guard = some true) (h5 : cntL (cops.drop (i + 1)) (j - i) ≤ k) :
    ∃ vs, loadV (seqAt call base cops F s i).2.get p n = some vs ∧ sameLoad (seqAt call base cops F s (j + 1)).2 ⟨p, n, vs⟩ = true := by
  have hjl := (List.getElem?_eq_some_iff.1 hj).1
  obtain ⟨prev', pend', e⟩ := evOps_at cops i h (by omega)
  have hil := (List.getElem?_eq_some_iff.1 hi).1
  have hd : cops.drop i = o :: cops.drop (i + 1) := by
    rw [List.drop_eq_getElem_cons hil]
    congr 1
    exact (List.getElem?_eq_some_iff.1 hi).2
  rw [hd] at e
  obtain ⟨v, s', prev2, pend2, e1, e2, e3, e4, e5, e6⟩ := evOps_cons e
  obtain ⟨vs, f1, f2, f3⟩ := e6 x m k p n h1 h2 h3 h4
  refine ⟨vs, f1, ?_⟩
  have hsucc : seqAt call base cops F s (i + 1) = (putO (seqAt call base cops F s i).1 o.dst v, s') := by
    obtain ⟨v2, s2, g1, g2⟩ := seqAt_succ cops i o h hi
    rw [e1] at g1
    cases g1
    exact g2
  have hpos : 1 ≤ cntL (cops.drop (i + 1)) (j - i) := by
    have hj' : (cops.drop (i + 1))[j - i - 1]? = some o' := by
      rw [List.getElem?_drop]
      have : i + 1 + (j - i - 1) = j := by omega
      rw [this]
      exact hj
    have hji : j - i = (j - i - 1) + 1 := by omega
    rw [hji]
    generalize j - i - 1 = q at hj' ⊢
    generalize cops.drop (i + 1) = l at hj' ⊢
    clear h5 hji hd e e2 f3
    induction l generalizing q with
    | nil => simp at hj'
    | cons a as ih =>
      cases q with
      | zero =>
        simp only [List.getElem?_cons_zero, Option.some.injEq] at hj'
        subst hj'
        simp [cntL, he]
      | succ q => have := ih q (by simpa using hj'); simp only [cntL] at this ⊢; omega
  have hpend := f3 (by omega)
  have hj' : (cops.drop (i + 1))[j - i - 1]? = some o' := by
    rw [List.getElem?_drop]
    have : i + 1 + (j - i - 1) = j := by omega
    rw [this]
    exact hj
  have hfin := pend_same (cops.drop (i + 1)) (j - i - 1) k o' ⟨p, n, vs⟩ e2 hpend hj' he (by
    have : j - i - 1 + 1 = j - i := by omega
    rw [this]
    exact h5)
  have hs2 := seqAt_add cops (i + 1) (j - i - 1 + 1) h (by omega)
  rw [hsucc] at hs2
  have : i + 1 + (j - i - 1 + 1) = j + 1 := by omega
  rw [this] at hs2
  rw [← hs2]
  exact hfin

/-- The check of a load at i, for an effect j ahead of it. -/
theorem load_ahead {cops : List CO} {F : Fr} {s : St} {prev : List St} {pend : Pend} {r : R} (h : evOps call base K cops F s prev pend = some r) {i j m k n : Nat} {o o' : CO} {x : POp} {p : Value}
    (hi : cops[i]? = some o) (hj : cops[j]? = some o') (hij : j < i) (he : isEff o'.op = true) (h1 : o.op = .p x) (h2 : o.chk = some (m, k))
    (h3 : loadOf (seqAt call base cops F s i).1 x = some (p, n)) (h4 : guardOk (seqAt call base cops F s i).1 o.guard = some true) (h5 : cntL (cops.drop (j + 1)) (i - (j + 1)) + 1 ≤ m) :
    ∃ vs, loadV (seqAt call base cops F s i).2.get p n = some vs ∧ sameLoad (seqAt call base cops F s j).2 ⟨p, n, vs⟩ = true := by
  have hjl := (List.getElem?_eq_some_iff.1 hj).1
  have hil := (List.getElem?_eq_some_iff.1 hi).1
  obtain ⟨prev', pend', e⟩ := evOps_at cops j h (by omega)
  have hd : cops.drop j = o' :: cops.drop (j + 1) := by
    rw [List.drop_eq_getElem_cons hjl]
    congr 1
    exact (List.getElem?_eq_some_iff.1 hj).2
  rw [hd] at e
  obtain ⟨v, s', prev2, pend2, e1, e2, e3, e4, e5, e6⟩ := evOps_cons e
  have hsucc : seqAt call base cops F s (j + 1) = (putO (seqAt call base cops F s j).1 o'.dst v, s') := by
    obtain ⟨v2, s2, g1, g2⟩ := seqAt_succ cops j o' h hj
    rw [e1] at g1
    cases g1
    exact g2
  have hs2 := seqAt_add cops (j + 1) (i - (j + 1)) h (by omega)
  rw [hsucc] at hs2
  have e9 : j + 1 + (i - (j + 1)) = i := by omega
  rw [e9] at hs2
  have hi' : (cops.drop (j + 1))[i - (j + 1)]? = some o := by
    rw [List.getElem?_drop, e9]
    exact hi
  obtain ⟨vs, g1, g2⟩ := prev_same (cops.drop (j + 1)) (i - (j + 1)) 0 o (seqAt call base cops F s j).2 x m k p n e2 (by rw [e3, he]; rfl) hi' h1 h2 (by rw [hs2]; exact h3) (by rw [hs2]; exact h4) (by omega)
  rw [hs2] at g1
  exact ⟨vs, g1, g2⟩

end
end Go.Ev

