/-
  Effects: what is written over.

  Effects: stores, and maps written.

  Effects: what is taken out of a map, what is copied.

  Effects: what is copied, what is appended.
-/
import Derived.Test.YtnmaachmjnmlmaaGreatFe
import Derived.Laws.CopyRow
set_option linter.unusedVariables false
set_option linter.unusedSimpArgs false
set_option linter.unusedSectionVars false
namespace Go.Ev

section
variable {P : Program} {φ : Emb} {w : World} {B0 : Nat} {s : St} {F : Fr} {ρ : Operand → Value}

/-- A block that may be written is written over. -/
theorem Step.put (g : Good P B0 φ s w) {i b δ sz : Nat} (hi : φ.blk i = some (b, δ, sz)) (hw : wr (s.get i) = true) (hm : s.wm ≤ i) {o : IObj} {co : Obj}
    (ho : ObjRel P φ (some o) δ sz (some co)) (hi0 : NoIce co := by intro _ _ _ h; first | (cases h; done) | (cases h; rfl)) : Step P B0 φ s w φ (s.put i o) (setB w b co) := by
  have hne : ∀ j, j ≠ i → (s.put i o).get j = s.get j := fun j hj => by rw [St.get_put, if_neg hj]
  have hat : (s.put i o).get i = some o := by rw [St.get_put, if_pos rfl]
  have hlt : i < s.next := by
    rcases Nat.lt_or_ge i s.next with h | h
    · exact h
    · rw [(g.fresh i h).1] at hi; cases hi
  refine ⟨⟨g.rel.set hi hw hat hne ho, fun j hj => ?_, g.wm, by rw [setB_size]; exact g.B0⟩, Tr.set hi hw hm hne hi0, rfl, Nat.le_refl _, fun j hj => hne j (by omega), fun j hj h => ?_, fun j hj h => ⟨h, hne j ?_⟩⟩
  · have hj' : s.next ≤ j := hj
    rw [hne j (by omega)]
    exact g.fresh j hj'
  · rw [hne j ?_]
    · exact h
    · rintro rfl
      rw [h] at hw
      cases hw
  · rintro rfl
    rw [h] at hi
    cases hi

theorem setRow_setB {w : World} {b : Nat} {cc cs : Array Value} {el : TypeId} {fz : Nat × Nat} (h : w.heap[b]? = some (.cells cc el fz)) : w.setRow b cs = setB w b (.cells cs el fz) := by
  have hlt : b < w.heap.size := (Array.getElem?_eq_some_iff.1 h).1
  have hv : w.heap[b] = .cells cc el fz := (Array.getElem?_eq_some_iff.1 h).2
  have : (w.setRow b cs).heap = (setB w b (.cells cs el fz)).heap := by
    apply Array.ext_getElem?
    intro k
    by_cases hk : k = b
    · subst hk
      rw [setRow_heap w k cc cs el fz h, setB_at w k _ hlt]
    · rw [setRow_other w b k cs hk, setB_ne w b _ hk]
  unfold World.setRow at *
  unfold setB at *
  simp_all

theorem oneCells {vs vs' : List Value} (hv : VL φ vs vs') (h1 : vs.all oneCell = true) : ∀ v ∈ vs', v.oneCell' = true := by
  intro v hv'
  obtain ⟨i, hi, rfl⟩ := List.getElem_of_mem hv'
  have hi' : i < vs.length := by rw [hv.1]; exact hi
  have h2 := hv.2 i hi'
  have h3 : oneCell (vs.getD i undf) = true := by
    simp only [List.getD, List.getElem?_eq_getElem hi', Option.getD_some]
    exact List.all_eq_true.1 h1 _ (List.getElem_mem hi')
  obtain ⟨a, b⟩ := h2.one h3
  simp only [List.getD, List.getElem?_eq_getElem hi, Option.getD_some] at a b
  generalize vs'[i] = y at a b
  cases y <;> simp_all [Value.oneCell']

theorem sim_write (g : Good P B0 φ s w) {p q : Value} {vs vs' : List Value} {s' : St} (hp : V φ p q) (hv : VL φ vs vs') (h1 : vs.all oneCell = true) (h : s.storeN p vs = some s') :
    ∃ a w', q = .pointer (some a) ∧ (storeCells a vs').run P w = .ok () w' ∧ Step P B0 φ s w φ s' w' := by
  unfold St.storeN at h
  split at h
  · rename_i i o
    obtain ⟨hm, h⟩ := bif_some h
    have hm := Nat.le_of_ble_eq_true hm
    split at h
    · rename_i c hc
      obtain ⟨c', hs, rfl⟩ := Option.map_eq_some_iff.1 h
      cases hp with
      | ptr e =>
        rename_i b δ sz
        have ho := g.rel.obj _ _ _ _ e
        rw [hc] at ho
        obtain ⟨cc, el, fz, a1, a2, a3, a4, a5⟩ := ho
        have a5 := a5.2
        subst a5
        obtain ⟨b1, b2, b3⟩ := splice?_some o vs c c' hs
        have hl := hv.1
        have hrun := run_storeCells_at (P := P) b (δ + o) el vs' 0 cc w a1 (by omega) (oneCells hv h1)
        simp only [Nat.add_zero] at hrun
        rw [setRow_setB a1] at hrun
        refine ⟨_, _, rfl, hrun, Step.put g e (by rw [hc]; rfl) hm ⟨_, el, (0, 0), rfl, ?_, by omega, fun j hj => ?_, ⟨rfl, rfl⟩⟩⟩
        · simp
          omega
        · rw [b2] at hj
          have h5 := a4 j hj
          rw [b3 j undf]
          have key : ∀ k, ((cc.toList.take (δ + o) ++ vs' ++ cc.toList.drop (δ + o + vs'.length)).toArray).getD k undf =
              if k < δ + o then cc.getD k undf else if k < δ + o + vs'.length then vs'.getD (k - (δ + o)) undf else cc.getD k undf := by
            intro k
            simp only [Array.getD_eq_getD_getElem?, List.getElem?_toArray]
            have hlen : (cc.toList.take (δ + o)).length = δ + o := by simp; omega
            by_cases k1 : k < δ + o
            · rw [if_pos k1, List.append_assoc, List.getElem?_append_left (by omega), List.getElem?_take, if_pos k1]
              simp
            · rw [if_neg k1]
              by_cases k2 : k < δ + o + vs'.length
              · rw [if_pos k2, List.append_assoc, List.getElem?_append_right (by omega), hlen, List.getElem?_append_left (by omega)]
                simp [List.getD]
              · rw [if_neg k2, List.getElem?_append_right (by simp; omega)]
                simp only [List.length_append, hlen, List.getElem?_drop, Array.getElem?_toList]
                congr 2
                omega
          rw [key]
          by_cases j1 : j < o
          · rw [if_neg (by omega), if_pos (by omega)]
            exact h5
          · by_cases j2 : j < o + vs.length
            · rw [if_pos (by omega), if_neg (by omega), if_pos (by omega)]
              have := hv.2 (j - o) (by omega)
              have e : δ + j - (δ + o) = j - o := by omega
              rw [e]
              exact this
            · rw [if_neg (by omega), if_neg (by omega), if_neg (by omega)]
              exact h5
    · cases h
  · cases h

end
end Go.Ev

namespace Go.Ev

section
variable {P : Program} {φ : Emb} {w : World} {B0 : Nat} {s : St} {F : Fr} {ρ : Operand → Value}

theorem sim_store (g : Good P B0 φ s w) {t : TypeId} {n : Nat} {a x a' x' v : Value} {s' : St} (ht : sizeIs P t n = true) (ha : V φ a a') (hx : V φ x x') (h : opStore s n a x = some (v, s')) :
    ∃ w', (Instr.storeAt t a' x').run P w = .ok () w' ∧ Step P B0 φ s w φ s' w' ∧ v = undf := by
  unfold opStore at h
  obtain ⟨h1, h⟩ := bif_some h
  simp only [Bool.and_eq_true] at h1
  obtain ⟨s1, h2, h3⟩ := Option.map_eq_some_iff.1 h
  simp only [Prod.mk.injEq] at h3
  obtain ⟨rfl, rfl⟩ := h3
  have hv := hx.cells (oneCell_not_chan h1.2)
  obtain ⟨q, w', rfl, hr, hs⟩ := sim_write g ha hv h1.2 h2
  refine ⟨w', ?_, hs, rfl⟩
  have hl := hv.1
  rw [Nat.eq_of_beq_eq_true h1.1] at hl
  have hsz : x'.cells.size = n := by
    simp only [vcells, Array.length_toList] at hl
    exact hl.symm
  have hr' : (storeCells q x'.cells.toList).run P w = .ok () w' := hr
  simp [Instr.storeAt, Instr.sureAddr, storeVar, run_sizeOf ht, hsz, hr']

theorem sameBits_bool (n : Nat) (a : Bool) : Instr.sameBits n (.bool a) (.bool a) = true := by
  cases n <;> simp only [Instr.sameBits, beq_self_eq_true]
theorem sameBits_int (n : Nat) (k : IntKind) (a : Int) : Instr.sameBits n (.int k a) (.int k a) = true := by
  cases n <;> cases k <;> simp [Instr.sameBits] <;> rfl
theorem sameBits_str (n : Nat) (a : ByteArray) : Instr.sameBits n (.string a) (.string a) = true := by
  have h : (a == a) = true := by
    obtain ⟨d⟩ := a
    show (d == d) = true
    simp
  cases n <;> simp only [Instr.sameBits, h]
theorem str_eq {a b : ByteArray} (h : (a == b) = true) : a = b := by
  obtain ⟨d⟩ := a
  obtain ⟨d'⟩ := b
  have : (d == d') = true := h
  simp at this
  rw [this]

theorem atomEq_same {b : Bool} {x y u z : Value} (e1 : atomEq b x y = some true) (hu : V φ x u) (hz : V φ y z) (n : Nat) : Instr.sameBits n z u = true := by
  unfold atomEq at e1
  split at e1
  · rename_i p q
    have : p = q := by simpa using e1
    subst this
    rw [hu.inv_bool, hz.inv_bool]
    exact sameBits_bool n p
  · rename_i k p k' q
    split at e1
    · rename_i hk
      have : p = q := by simpa using e1
      subst this
      subst hk
      rw [hu.inv_int, hz.inv_int]
      exact sameBits_int n k p
    · cases e1
  · cases e1

theorem atomsEq_same {l : List Bool} : ∀ {xs ys xs' ys' : List Value}, atomsEq l xs ys = some true → VL φ xs xs' → VL φ ys ys' → ys'.length = xs'.length ∧
    ∀ n, ((ys'.zip xs').all fun (x, y) => Instr.sameBits n x y) = true := by
  induction l with
  | nil =>
    intro xs ys xs' ys' h hx hy
    cases xs <;> cases ys <;> simp [atomsEq] at h
    rw [hx.inv_nil, hy.inv_nil]
    exact ⟨rfl, fun _ => rfl⟩
  | cons b l ih =>
    intro xs ys xs' ys' h hx hy
    cases xs with
    | nil => simp [atomsEq] at h
    | cons x xs =>
      cases ys with
      | nil => simp [atomsEq] at h
      | cons y ys =>
        obtain ⟨a, c, e1, e2, e3⟩ := atomsEq_cons h
        obtain ⟨u, us, rfl, hu, hus⟩ := hx.inv_cons
        obtain ⟨z, zs, rfl, hz, hzs⟩ := hy.inv_cons
        have : a = true ∧ c = true := by
          cases a <;> cases c <;> first | exact ⟨rfl, rfl⟩ | cases e3
        obtain ⟨rfl, rfl⟩ := this
        obtain ⟨i1, i2⟩ := ih e2 hus hzs
        refine ⟨by rw [List.length_cons, List.length_cons, i1], fun n => ?_⟩
        simp only [List.zip_cons_cons, List.all_cons, atomEq_same e1 hu hz n, Bool.true_and]
        exact i2 n

theorem sameBits_of {e : EqT} {x y x' y' : Value} {r : Bool} (h : EqIs φ e x y x' y' r) (hr : r = true) (hp : e ≠ .ptr) (n : Nat) : Instr.sameBits (n + 1) y' x' = true := by
  cases h with
  | int k a b => 
    have : a = b := by simpa using hr
    subst this
    exact sameBits_int _ k a
  | bool a b =>
    have : a = b := by simpa using hr
    subst this
    exact sameBits_bool _ a
  | str a b =>
    have : a = b := str_eq hr
    subst this
    exact sameBits_str _ a
  | ptrN => exact absurd rfl hp
  | ptrS => exact absurd rfl hp
  | agg l h hx hy =>
    subst hr
    obtain ⟨us, e1, h1⟩ := hx.inv_agg
    obtain ⟨zs, e2, h2⟩ := hy.inv_agg
    cases e1
    cases e2
    obtain ⟨i1, i2⟩ := atomsEq_same h h1 h2
    simp only [Instr.sameBits, Bool.and_eq_true]
    exact ⟨by simpa using i1, i2 n⟩

theorem keyStays {e : EqT} {x y x' y' : Value} (h : EqIs φ e x y x' y' true) (hp : e ≠ .ptr) : (Instr.keyThatStays y' x').run P w = .ok x' w := by
  have := sameBits_of h rfl hp 9999
  simp only [Instr.keyThatStays, this, if_true, Sem.run_pure]

theorem EntsR.push {es : List (Value × Value)} {ces : List MapEntry} (h : EntsR φ es ces) {x : Value × Value} {c : MapEntry} (hx : EntR φ x c) : EntsR φ (es ++ [x]) (ces ++ [c]) := by
  induction h with
  | nil => exact .cons hx .nil
  | cons a _ ih => exact .cons a ih

/-- What is written under a key: at the place where the search finds it, or behind all others. -/
theorem setKey_R {e : EqT} {k k' v v' : Value} (hk : V φ k k') (hv : V φ v v') : ∀ {es : List (Value × Value)} {ces : List MapEntry}, EntsR φ es ces →
    (findKey e k es = some none → ∀ c : MapEntry, c.key = k' → c.val = v' → EntsR φ (setKey e k v es) (ces ++ [c])) ∧
    (∀ u, findKey e k es = some (some u) → ∃ c kk, ces[keyAt e k es]? = some c ∧ flatEq e k kk = some true ∧ V φ kk c.key ∧
      EntsR φ (setKey e k v es) (ces.modify (keyAt e k es) fun x => { x with key := k', val := v' })) := by
  intro es ces h
  induction h with
  | nil =>
    refine ⟨fun _ c h1 h2 => .cons ⟨h1 ▸ hk, h2 ▸ hv⟩ .nil, fun u h => ?_⟩
    simp [findKey] at h
  | cons a b ih =>
    rename_i x c xs cs
    obtain ⟨kk, vv⟩ := x
    cases hf : flatEq e k kk with
    | none => simp [findKey, hf]
    | some q =>
      cases q with
      | true =>
        have e1 : setKey e k v ((kk, vv) :: xs) = (k, v) :: xs := by simp only [setKey, hf]
        refine ⟨fun h => by simp [findKey, hf] at h, fun u _ => ⟨c, kk, by simp [keyAt, hf], hf, a.1, ?_⟩⟩
        rw [e1]
        simp only [keyAt, hf, if_true]
        exact .cons ⟨hk, hv⟩ b
      | false =>
        simp only [findKey, hf, setKey]
        refine ⟨fun h d h1 h2 => .cons a (ih.1 h d h1 h2), fun u h => ?_⟩
        obtain ⟨d, k2, g1, g2, g3, g4⟩ := ih.2 u h
        refine ⟨d, k2, by simpa [keyAt, hf] using g1, g2, g3, ?_⟩
        simp only [keyAt, hf, Option.some.injEq, Bool.false_eq_true, if_false]
        exact .cons a g4

theorem sim_mapUpdate (g : Good P B0 φ s w) {t kt et : TypeId} {e : EqT} {m m' k k' x x' v : Value} {s' : St} (ht : P.underlying t = some (.map kt et)) (hc : EqSpec P kt e)
    (hm : V φ m m') (hk : V φ k k') (hx : V φ x x') (h : opMapUpdate s e m k x = some (v, s')) :
    ∃ w', (Instr.mapUpdate t m' k' x').run P w = .ok () w' ∧ Step P B0 φ s w φ s' w' ∧ v = undf := by
  unfold opMapUpdate at h
  split at h
  · rename_i i
    obtain ⟨h1, h⟩ := bif_some h
    have h1 := Nat.le_of_ble_eq_true h1
    split at h
    · rename_i es hes
      obtain ⟨h2, h⟩ := bif_some h
      simp only [Bool.and_eq_true] at h2
      simp only [Option.some.injEq, Prod.mk.injEq] at h
      obtain ⟨rfl, rfl⟩ := h
      cases hm with
      | map hb =>
        rename_i b δ sz
        have ho := g.rel.obj _ _ _ _ hb
        rw [hes] at ho
        obtain ⟨ces, clk, a1, a2⟩ := ho
        have hp : e ≠ .ptr := by
          rintro rfl
          simp [keyOk] at h2
        obtain ⟨r, hr⟩ := Option.isSome_iff_exists.1 h2.2
        have hck := run_checkKey (w := w) (em := false) hc h2.1 hk
        obtain ⟨k1, k2⟩ := setKey_R (e := e) (es := es) hk hx a2
        have hset : ∀ o : Obj, (setObj b o).run P w = .ok () (setB w b o) := fun o => by
          simp only [setObj, Sem.run, a1, setB]
        rcases run_findKey (w := w) hc hp hk a2 hr with ⟨rfl, q1⟩ | ⟨u, j, c, rfl, q1, q2, q3, q4⟩
        · refine ⟨setB w b (.map (ces.push { key := k', val := x', born := clk }) (clk + 1)), ?_, Step.put g hb (by rw [hes]; rfl) h1 ⟨_, _, rfl, ?_⟩, rfl⟩
          · simp [Instr.mapUpdate, run_underlying ht, run_getObj a1, hck, q1, hset]
          · simpa using k1 hr { key := k', val := x', born := clk } rfl rfl
        · obtain ⟨c', kk, g1, g2, g3, g4⟩ := k2 u hr
          subst q4
          have hst := keyStays (P := P) (w := w) (flatEq_is g2 hk g3) hp
          refine ⟨setB w b (.map (ces.modify (keyAt e k es) fun z => { z with key := k', val := x' }) clk), ?_, Step.put g hb (by rw [hes]; rfl) h1 ⟨_, _, rfl, ?_⟩, rfl⟩
          · have g5 : ces[keyAt e k es]? = some c' := by simpa using g1
            simp [Instr.mapUpdate, run_underlying ht, run_getObj a1, hck, q3, g5, hst, hset]
          · simpa using g4
    · cases h
  · cases h

end
end Go.Ev

namespace Go.Ev

section
variable {P : Program} {φ : Emb} {w : World} {B0 : Nat} {s : St} {F : Fr} {ρ : Operand → Value}

theorem delKey_R {e : EqT} {k : Value} : ∀ {es : List (Value × Value)} {ces : List MapEntry}, EntsR φ es ces →
    (findKey e k es = some none → EntsR φ (delKey e k es) ces) ∧
    (∀ u, findKey e k es = some (some u) → EntsR φ (delKey e k es) (ces.eraseIdx (keyAt e k es))) := by
  intro es ces h
  induction h with
  | nil => exact ⟨fun _ => .nil, fun u h => by simp [findKey] at h⟩
  | cons a b ih =>
    rename_i x c xs cs
    obtain ⟨kk, vv⟩ := x
    cases hf : flatEq e k kk with
    | none => simp [findKey, hf]
    | some q =>
      cases q with
      | true =>
        have e1 : delKey e k ((kk, vv) :: xs) = xs := by simp only [delKey, hf]
        refine ⟨fun h => by simp [findKey, hf] at h, fun u _ => ?_⟩
        rw [e1]
        simp only [keyAt, hf, if_true]
        exact b
      | false =>
        have e1 : delKey e k ((kk, vv) :: xs) = (kk, vv) :: delKey e k xs := by simp only [delKey, hf]
        refine ⟨fun h => ?_, fun u h => ?_⟩
        · rw [e1]
          exact .cons a (ih.1 (by simpa [findKey, hf] using h))
        · rw [e1]
          simp only [keyAt, hf, Option.some.injEq, Bool.false_eq_true, if_false]
          exact .cons a (ih.2 u (by simpa [findKey, hf] using h))

theorem sim_delete (g : Good P B0 φ s w) {t kt et tt : TypeId} {us : List TypeId} {e : EqT} {m m' k k' v : Value} {s' : St} (ht : P.underlying t = some (.map kt et)) (hc : EqSpec P kt e)
    (hm : V φ m m') (hk : V φ k k') (h : opDelete s e m k = some (v, s')) :
    ∃ w', (Builtin.delete_ ⟨t :: us⟩ tt #[m', k']).run P w = .ok (.tuple #[]) w' ∧ Step P B0 φ s w φ s' w' ∧ v = undf := by
  unfold opDelete at h
  split at h
  · rename_i i
    obtain ⟨h1, h⟩ := bif_some h
    have h1 := Nat.le_of_ble_eq_true h1
    split at h
    · rename_i es hes
      obtain ⟨h2, h⟩ := bif_some h
      simp only [Bool.and_eq_true] at h2
      simp only [Option.some.injEq, Prod.mk.injEq] at h
      obtain ⟨rfl, rfl⟩ := h
      cases hm with
      | map hb =>
        rename_i b δ sz
        have ho := g.rel.obj _ _ _ _ hb
        rw [hes] at ho
        obtain ⟨ces, clk, a1, a2⟩ := ho
        have hp : e ≠ .ptr := by
          rintro rfl
          simp [keyOk] at h2
        obtain ⟨r, hr⟩ := Option.isSome_iff_exists.1 h2.2
        have hck := run_checkKey (w := w) (em := ces.isEmpty) hc h2.1 hk
        obtain ⟨k1, k2⟩ := delKey_R (e := e) (k := k) (es := es) a2
        have hset : ∀ o : Obj, (setObj b o).run P w = .ok () (setB w b o) := fun o => by
          simp only [setObj, Sem.run, a1, setB]
        rcases run_findKey (w := w) hc hp hk a2 hr with ⟨rfl, q1⟩ | ⟨u, j, c, rfl, q1, q2, q3, q4⟩
        · refine ⟨setB w b (.map ces clk), ?_, Step.put g hb (by rw [hes]; rfl) h1 ⟨_, _, rfl, ?_⟩, rfl⟩
          · simp [Builtin.delete_, run_underlying ht, run_getObj a1, hck, q1, hset]
          · exact k1 hr
        · subst q4
          refine ⟨setB w b (.map (ces.eraseIdxIfInBounds (keyAt e k es)) clk), ?_, Step.put g hb (by rw [hes]; rfl) h1 ⟨_, _, rfl, ?_⟩, rfl⟩
          · simp [Builtin.delete_, run_underlying ht, run_getObj a1, hck, q3, hset]
          · have := k2 u hr
            have hlt : keyAt e k es < ces.size := by
              have := (List.getElem?_eq_some_iff.1 q1).1
              simpa using this
            simpa [Array.eraseIdxIfInBounds, hlt] using this
    · cases h
  · cases h

end
end Go.Ev

namespace Go.Ev

section
variable {P : Program} {φ : Emb} {H : Get} {w : World} {B0 : Nat} {s : St} {F : Fr} {ρ : Operand → Value}

theorem take?_some {α : Type} : ∀ {n : Nat} {l l' : List α}, take? n l = some l' → n ≤ l.length ∧ l' = l.take n
  | 0, l, l', h => by simp only [take?, Option.some.injEq] at h; subst h; simp
  | _ + 1, [], l', h => by simp [take?] at h
  | n + 1, x :: l, l', h => by
    simp only [take?] at h
    obtain ⟨l1, h1, rfl⟩ := Option.map_eq_some_iff.1 h
    obtain ⟨a, b⟩ := take?_some h1
    exact ⟨by simp; omega, by simp [b]⟩

/-- The elements of a slice: how many, and the first of them. -/
theorem srcOf_some {esz k : Nat} {y y' : Value} {cs : List Value} (r : Rel P B0 φ H w) (h : srcOf H esz y = some (cs, k)) (hy : V φ y y') :
    (Builtin.lenOf y').run P w = .ok k w ∧ cs.length = k * esz ∧
    ∀ n, n ≤ k → ∃ cc, (Builtin.firstCells esz n y').run P w = .ok cc w ∧ VL φ (cs.take (n * esz)) cc.toList := by
  unfold srcOf at h
  split at h
  · simp only [Option.some.injEq, Prod.mk.injEq] at h
    obtain ⟨rfl, rfl⟩ := h
    obtain ⟨_, _, rfl⟩ := hy.inv_nsl
    exact ⟨by simp [Builtin.lenOf], by simp, fun n hn => ⟨#[], by simp [Builtin.firstCells], by simpa using VL.nil φ⟩⟩
  · rename_i a n z
    obtain ⟨hz, h⟩ := bif_some h
    have hz := Nat.eq_of_beq_eq_true hz
    subst hz
    obtain ⟨cs', hl, hh⟩ := Option.map_eq_some_iff.1 h
    simp only [Prod.mk.injEq] at hh
    obtain ⟨rfl, rfl⟩ := hh
    obtain ⟨i, o, b, δ, sz, cap, o', rfl, hb, h1, h2, h3, h4, rfl⟩ := hy.inv_sl
    obtain ⟨b', p, cc, el, fz, q1, q2, q3, q4⟩ := loadV_some r hl (V.ptr (o := o) hb)
    cases q1
    have hlen : cs'.length = n * z := by simpa using q4.1
    refine ⟨by simp [Builtin.lenOf], hlen, fun m hm => ?_⟩
    have hmz : m * z ≤ n * z := Nat.mul_le_mul_right z hm
    by_cases hn : n = 0
    · subst hn
      have : m = 0 := by omega
      subst this
      refine ⟨#[], ?_, by simpa using VL.nil φ⟩
      simp [Builtin.firstCells, loadCells, loadCellsFrom]
    · have ho : o' = δ + o := by omega
      subst ho
      refine ⟨_, run_loadCells q2 (by omega), ?_⟩
      have := q4.take (m * z)
      rw [← List.map_take, List.take_range] at this
      simpa [Nat.min_eq_left hmz] using this
  · rename_i z es
    obtain ⟨hz, hq⟩ := bif_some h
    clear h
    have hz := Nat.eq_of_beq_eq_true hz
    subst hz
    simp only [Option.some.injEq, Prod.mk.injEq] at hq
    obtain ⟨rfl, rfl⟩ := hq
    rcases hy.inv_imsl with ⟨rfl, p1, ad, cap, rfl⟩ | ⟨b, o, cap, cc, rfl, e1, e2, e3, e4, e5, e6⟩
    · refine ⟨by simp [Builtin.lenOf], by simp, fun m hm => ?_⟩
      have : m = 0 := by simpa using hm
      subst this
      exact ⟨#[], by simp [Builtin.firstCells, loadCells, loadCellsFrom], by simpa using VL.nil φ⟩
    obtain ⟨el, fz, hw⟩ := r.imo _ _ e1
    have hlen := flatMap_len e5
    refine ⟨by simp [Builtin.lenOf], hlen, fun m hm => ?_⟩
    have hmz : m * z ≤ es.length * z := Nat.mul_le_mul_right z hm
    refine ⟨_, run_loadCells hw (by omega), ?_⟩
    refine ⟨by simp [hlen, Nat.min_eq_left hmz], fun j hj => ?_⟩
    have hj' : j < m * z := by
      rw [List.length_take] at hj
      omega
    have := e6 j (by omega)
    simpa [List.getD, List.getElem?_take, hj'] using this
  · cases h

theorem sim_copy (g : Good P B0 φ s w) {t e tt : TypeId} {us : List TypeId} {z : Nat} {x x' y y' v : Value} {s' : St} (ht : P.underlying t = some (.slice e)) (hz : sizeIs P e z = true)
    (hx : V φ x x') (hy : V φ y y') (h : opCopy s z x y = some (v, s')) :
    ∃ w', (Builtin.copy_ ⟨t :: us⟩ tt #[x', y']).run P w = .ok v w' ∧ Step P B0 φ s w φ s' w' ∧ V φ v v := by
  unfold opCopy at h
  split at h
  · rename_i q hs
    simp only [Option.some.injEq, Prod.mk.injEq] at h
    obtain ⟨rfl, rfl⟩ := h
    obtain ⟨_, _, rfl⟩ := hx.inv_nsl
    obtain ⟨cs, k⟩ := q
    obtain ⟨r1, r2, r3⟩ := srcOf_some g.rel hs hy
    obtain ⟨cc, r4, _⟩ := r3 0 (Nat.zero_le _)
    refine ⟨w, ?_, Step.refl g, .int _ _⟩
    have hm : Nat.min k 0 = 0 := Nat.min_zero k
    simp [Builtin.copy_, run_underlying ht, run_sizeOf hz, r1, hm, r4, goInt]
  · rename_i a n zz src k hs
    obtain ⟨hg, hq⟩ := bif_some h
    clear h
    simp only [Bool.and_eq_true] at hg
    have hzz := Nat.eq_of_beq_eq_true hg.1
    subst hzz
    obtain ⟨vs, h1, h2⟩ := Option.bind_eq_some_iff.1 hq
    obtain ⟨s1, h3, h4⟩ := Option.map_eq_some_iff.1 h2
    simp only [Prod.mk.injEq] at h4
    obtain ⟨rfl, rfl⟩ := h4
    obtain ⟨i, o, b, δ, sz, cap, o', rfl, hb, c1, c2, c3, c4, rfl⟩ := hx.inv_sl
    obtain ⟨r1, r2, r3⟩ := srcOf_some g.rel hs hy
    obtain ⟨cc, r4, r5⟩ := r3 (Nat.min k n) (Nat.min_le_left k n)
    obtain ⟨t1, rfl⟩ := take?_some h1
    have h1c : (src.take (Nat.min k n * zz)).all oneCell = true := by
      rw [List.all_eq_true]
      intro v hv
      exact List.all_eq_true.1 hg.2 v (List.mem_of_mem_take hv)
    obtain ⟨ad, w', e1, e2, e3⟩ := sim_write g (V.ptr (o := o) hb) r5 h1c h3
    simp only [Value.pointer.injEq, Option.some.injEq] at e1
    subst e1
    refine ⟨w', ?_, e3, .int _ _⟩
    have e4 : (storeCells ⟨b, o', none⟩ cc.toList).run P w = .ok () w' := by
      rcases c4 with rfl | ⟨rfl, _⟩
      · exact e2
      · have hm : Nat.min k 0 = 0 := Nat.min_zero k
        have : cc.toList = [] := by
          have := r5.1
          simp [hm] at this
          simpa using Array.eq_empty_of_size_eq_zero this.symm
        rw [this] at e2 ⊢
        exact e2
    simp [Builtin.copy_, run_underlying ht, run_sizeOf hz, r1, r4, e4, goInt]
  · cases h

end
end Go.Ev

