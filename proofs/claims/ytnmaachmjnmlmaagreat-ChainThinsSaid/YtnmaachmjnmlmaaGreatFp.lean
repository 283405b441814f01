/-
  What a caller hands in, as values: slices of any elements.
-/
import Derived.Test.YtnmaachmjnmlmaaGreatFl
import Derived.Test.YtnmaachmjnmlmaaGreatFo
import Derived.Deep.Slices
set_option linter.unusedVariables false
set_option linter.unusedSimpArgs false
set_option linter.unusedSectionVars false
namespace Go.Ev

section
variable {H : Type} {enc : TypeId × Value → H} {P : Program} {w : World}

/-- Elements that were read stand one behind the other in a block. -/
theorem rows_at {a : Addr} {len z : Nat} (hz : 0 < z) (hlen : 0 < len) {R : Nat → List Value → Prop} (h : ∀ i, i < len → ∃ cs, w.cells? 0 (a.add (i * z)) z = some cs ∧ R i cs) :
    ∃ b o cc el fz, a = ⟨b, o, none⟩ ∧ w.heap[b]? = some (.cells cc el fz) ∧ o + len * z ≤ cc.size ∧ ∀ i, i < len → R i ((List.range z).map fun k => cc.getD (o + i * z + k) undf) := by
  obtain ⟨b, o, sp⟩ := a
  have get : ∀ i, i < len → ∃ cs, cs.length = z ∧ R i cs ∧ ∀ k, k < z → w.cell? ((Addr.add ⟨b, o, sp⟩ (i * z)).add k) = cs[k]? := by
    intro i hi
    obtain ⟨cs, h1, h2⟩ := h i hi
    obtain ⟨_, h3, h4⟩ := World.cells?_some h1
    exact ⟨cs, h3, h2, h4⟩
  obtain ⟨cs0, l0, _, g0⟩ := get 0 hlen
  have g00 := g0 0 hz
  rw [Nat.zero_mul] at g00
  have e0 : (Addr.add ⟨b, o, sp⟩ 0).add 0 = ⟨b, o, sp⟩ := rfl
  rw [e0, List.getElem?_eq_getElem (by omega)] at g00
  have hsp : sp = none := by
    cases sp with
    | none => rfl
    | some s =>
      unfold World.cell? at g00
      split at g00
      · simp at g00
      · cases g00
  subst hsp
  have hadd : ∀ n, (Addr.add ⟨b, o, none⟩ n) = ⟨b, o + n, none⟩ := by
    intro n
    unfold Addr.add
    by_cases hn : n = 0
    · subst hn; rfl
    · rw [if_neg hn]
  have hadd2 : ∀ n m, ((Addr.add ⟨b, o, none⟩ n).add m) = ⟨b, o + n + m, none⟩ := by
    intro n m
    rw [hadd]
    unfold Addr.add
    by_cases hn : m = 0
    · subst hn; rfl
    · rw [if_neg hn]
  obtain ⟨cc, el, fz, hb⟩ : ∃ cc el fz, w.heap[b]? = some (.cells cc el fz) := by
    unfold World.cell? at g00
    split at g00
    · rename_i c el fz h
      exact ⟨c, el, fz, h⟩
    · cases g00
  have cell : ∀ n, w.cell? ⟨b, n, none⟩ = cc[n]? := by
    intro n
    simp [World.cell?, hb]
  have all : ∀ i, i < len → R i ((List.range z).map fun k => cc.getD (o + i * z + k) undf) ∧ o + i * z + z ≤ cc.size := by
    intro i hi
    obtain ⟨cs, l1, h1, g1⟩ := get i hi
    have g2 : ∀ k, k < z → cc[o + i * z + k]? = cs[k]? := fun k hk => by
      have := g1 k hk
      rw [hadd2, cell] at this
      exact this
    have hsz : o + i * z + z ≤ cc.size := by
      have := g2 (z - 1) (by omega)
      rw [List.getElem?_eq_getElem (by omega)] at this
      have := (Array.getElem?_eq_some_iff.1 this).1
      omega
    have he : cs = (List.range z).map fun k => cc.getD (o + i * z + k) undf := by
      apply List.ext_getElem?
      intro k
      by_cases hk : k < z
      · rw [← g2 k hk]
        simp [hk, Array.getD_eq_getD_getElem?, show o + i * z + k < cc.size by omega]
      · rw [List.getElem?_eq_none (by omega), List.getElem?_eq_none (by simp; omega)]
    rw [← he]
    exact ⟨h1, hsz⟩
  refine ⟨b, o, cc, el, fz, rfl, hb, ?_, fun i hi => (all i hi).1⟩
  have := (all (len - 1) (by omega)).2
  have e : (len - 1) * z + z = len * z := by rw [← Nat.succ_mul]; congr 1; omega
  omega

/-- A slice that came in, as a value: element by element. -/
theorem open_rows {t e : TypeId} {fuel z : Nat} {held : Bool} {cs : List Value} {x : DataW H × List MemPlace} (ht : P.underlying t = some (.slice e)) (hz : P.cellsOf e = z) (hz0 : 0 < z)
    (h : DataW.trod enc P w 0 (fun _ => true) held fuel t cs = some x) {Q : List Value → Prop}
    (hQ : ∀ n cs' y, DataW.trod enc P w 0 (fun _ => true) held n e cs' = some y → cs'.length = z → ∃ vs, VL (φ0 w) vs cs' ∧ Q vs) :
    ∃ c v es, cs = [c] ∧ V (φ0 w) v c ∧ oneCell v = true ∧ (∀ g, Row g z v es) ∧ ∀ e ∈ es, Q e := by
  rcases Deep.open_slice ht h with ⟨rfl, _⟩ | ⟨a, len, cap, m, n, D, Pl, rfl, _, hl, _, hm, _, hel⟩
  · exact ⟨_, .slice none 0 0, [], rfl, .nsl, rfl, fun g => ⟨hz0, (fun e he => by cases he), .inl ⟨rfl, rfl⟩⟩, fun e he => by cases he⟩
  · rcases Nat.eq_zero_or_pos len with h0 | hpos
    · subst h0
      exact ⟨_, .iface z (.agg ⟨[]⟩), [], rfl, .iesl a hz0, rfl, fun g => ⟨hz0, (fun e he => by cases he), .inr (.inr ⟨[], rfl, rfl⟩)⟩, fun e he => by cases he⟩
    · have hmc : m = cap := by simpa using hm
      obtain ⟨b, o, cc, el, fz, rfl, hb, hsz, hR⟩ := rows_at (w := w) (z := z) hz0 hpos (R := fun i cs' => ∃ vs, VL (φ0 w) vs cs' ∧ Q vs) (fun i hi => by
        obtain ⟨cs', h1, h2⟩ := hel i (by omega)
        rw [hz] at h1
        obtain ⟨_, h3, _⟩ := World.cells?_some h1
        exact ⟨cs', h1, hQ n cs' _ h2 h3⟩)
      have hch : ∀ i, ∃ vs, i < len → VL (φ0 w) vs ((List.range z).map fun k => cc.getD (o + i * z + k) undf) ∧ Q vs := fun i => by
        by_cases hi : i < len
        · obtain ⟨vs, h1⟩ := hR i hi
          exact ⟨vs, fun _ => h1⟩
        · exact ⟨[], fun h => absurd h hi⟩
      obtain ⟨f, hf⟩ := Classical.axiomOfChoice hch
      have hlenf : ∀ i, i < len → (f i).length = z := fun i hi => by
        have := (hf i hi).1.1
        simpa using this
      let es : List Value := (List.range len).map fun i => .agg ⟨f i⟩
      have hes : es.length = len := by simp [es]
      have hmap : es.map vcells = (List.range len).map f := by
        simp only [es, List.map_map]
        rfl
      have hvc : ∀ e ∈ es, (vcells e).length = z := fun e he => by
        obtain ⟨i, hi, rfl⟩ := List.mem_map.1 he
        exact hlenf i (by simpa using hi)
      refine ⟨_, .iface z (.agg ⟨es⟩), (List.range len).map f, rfl, .imsl (φ0_im hb) hz0 hes hl hsz hvc (fun j hj => ?_), rfl, fun g => ⟨hz0, ?_, .inr (.inr ⟨es, rfl, hmap⟩)⟩, ?_⟩
      · -- cell j is cell k of element i
        have hi : j / z < len := Nat.div_lt_of_lt_mul (by rw [Nat.mul_comm]; exact hj)
        have hk : j % z < z := Nat.mod_lt _ hz0
        have hj2 : j / z * z + j % z = j := by rw [Nat.mul_comm]; exact Nat.div_add_mod j z
        have h1 := (hf _ hi).1.2 (j % z) (by rw [hlenf _ hi]; exact hk)
        have e1 : ((List.range z).map fun k => cc.getD (o + j / z * z + k) undf).getD (j % z) undf = cc.getD (o + j) undf := by
          simp [List.getD, hk]
          rw [Nat.add_assoc, hj2]
        rw [e1] at h1
        have e2 : (es.flatMap vcells).getD j undf = (f (j / z)).getD (j % z) undf := by
          have d1 := flatMap_drop (j / z) hvc (by omega)
          have d2 : es.drop (j / z) = .agg ⟨f (j / z)⟩ :: es.drop (j / z + 1) := by
            rw [List.drop_eq_getElem_cons (by omega)]
            simp [es]
          rw [d2, List.flatMap_cons] at d1
          have d3 : ((es.flatMap vcells).drop (j / z * z)).getD (j % z) undf = (es.flatMap vcells).getD j undf := by
            simp only [List.getD, List.getElem?_drop, hj2]
          rw [← d3, ← d1]
          have hlt : j % z < (vcells (.agg ⟨f (j / z)⟩)).length := by rw [show vcells (.agg ⟨f (j / z)⟩) = f (j / z) from rfl, hlenf _ hi]; exact hk
          simp only [List.getD, List.getElem?_append_left hlt]
          rfl
        rw [e2]
        exact h1
      · intro e he
        obtain ⟨i, hi, rfl⟩ := List.mem_map.1 he
        exact hlenf i (by simpa using hi)
      · intro e he
        obtain ⟨i, hi, rfl⟩ := List.mem_map.1 he
        exact (hf i (by simpa using hi)).2
end
end Go.Ev

