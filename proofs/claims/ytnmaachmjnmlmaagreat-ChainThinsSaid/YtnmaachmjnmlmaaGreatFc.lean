/-
  The operations that only compute, or read, one by one: literals, maps, equality.
-/
import Derived.Test.YtnmaachmjnmlmaaGreatFb
import Derived.Laws.Tables
set_option linter.unusedVariables false
set_option linter.unusedSimpArgs false
set_option linter.unusedSectionVars false
namespace Go.Ev

section
variable {P : Program} {φ : Emb} {H : Get} {w : World} {B0 : Nat} {F : Fr} {ρ : Operand → Value}

theorem splice?_some {α : Type} : ∀ (o : Nat) (vs l l' : List α), splice? o vs l = some l' → o + vs.length ≤ l.length ∧ l'.length = l.length ∧
    ∀ (i : Nat) (d : α), l'.getD i d = if o ≤ i ∧ i < o + vs.length then vs.getD (i - o) d else l.getD i d
  | 0, [], l, l', h => by
    simp only [splice?, Option.some.injEq] at h; subst h
    exact ⟨by simp, rfl, fun i d => by simp⟩
  | 0, _ :: _, [], l', h => by simp [splice?] at h
  | 0, v :: vs, x :: l, l', h => by
    simp only [splice?, Option.map_eq_some_iff] at h
    obtain ⟨l1, h1, rfl⟩ := h
    obtain ⟨a, b, c⟩ := splice?_some 0 vs l l1 h1
    refine ⟨by simp at *; omega, by simp [b], fun i d => ?_⟩
    cases i with
    | zero => simp
    | succ i =>
      have := c i d
      simp only [Nat.zero_le, true_and, Nat.zero_add, Nat.sub_zero] at this
      simp only [List.getD_cons_succ, this, Nat.zero_le, true_and, List.length_cons, Nat.zero_add, Nat.sub_zero, Nat.add_lt_add_iff_right]
  | o + 1, vs, [], l', h => by simp [splice?] at h
  | o + 1, vs, x :: l, l', h => by
    simp only [splice?, Option.map_eq_some_iff] at h
    obtain ⟨l1, h1, rfl⟩ := h
    obtain ⟨a, b, c⟩ := splice?_some o vs l l1 h1
    refine ⟨by simp; omega, by simp [b], fun i d => ?_⟩
    cases i with
    | zero => simp
    | succ i =>
      have := c i d
      simp only [List.getD_cons_succ, this]
      by_cases hh : o ≤ i ∧ i < o + vs.length
      · rw [if_pos hh, if_pos (by omega)]
        congr 1; omega
      · rw [if_neg hh, if_neg (by omega)]

theorem fill_cells : ∀ (vs : List Value) (k off : Nat) (cs : Array Value), off + k + vs.length ≤ cs.size →
    ((vs.zipIdx k).foldl (fun cs x => cs.setIfInBounds (off + x.2) x.1) cs).size = cs.size ∧
    ∀ i, ((vs.zipIdx k).foldl (fun cs x => cs.setIfInBounds (off + x.2) x.1) cs).getD i undf = if off + k ≤ i ∧ i < off + k + vs.length then vs.getD (i - (off + k)) undf else cs.getD i undf
  | [], k, off, cs, _ => ⟨rfl, fun i => by rw [if_neg (by simp)]; rfl⟩
  | v :: vs, k, off, cs, h => by
    simp only [List.zipIdx_cons, List.foldl_cons]
    have hs : (cs.setIfInBounds (off + k) v).size = cs.size := by simp
    obtain ⟨a, b⟩ := fill_cells vs (k + 1) off (cs.setIfInBounds (off + k) v) (by simp at h ⊢; omega)
    refine ⟨a.trans hs, fun i => ?_⟩
    rw [b i]
    simp only [List.length_cons] at h ⊢
    by_cases h1 : off + (k + 1) ≤ i ∧ i < off + (k + 1) + vs.length
    · rw [if_pos h1, if_pos (by omega)]
      have : i - (off + k) = (i - (off + (k + 1))) + 1 := by omega
      rw [this, List.getD_cons_succ]
    · rw [if_neg h1]
      by_cases h2 : i = off + k
      · subst h2
        rw [if_pos (by omega)]
        have : off + k < cs.size := by omega
        simp [Array.getD_eq_getD_getElem?, this]
      · rw [if_neg (by omega)]
        simp [Array.getD_eq_getD_getElem?, Array.getElem?_setIfInBounds, Ne.symm h2]

theorem oneCell_not_chan {v : Value} (h : (vcells v).all oneCell = true) : ∀ c, v ≠ .chan c := by
  rintro c rfl
  simp [vcells, Value.cells, oneCell] at h

theorem getD_toList (a : Array Value) (i : Nat) : a.toList.getD i undf = a.getD i undf := by
  simp [List.getD, Array.getD_eq_getD_getElem?]

theorem sim_fill {place : Nat → Option (Nat × Nat)} : ∀ {ops : List (Nat × Operand)} {qs : List (Nat × Nat × COpd)} {ps : List (Nat × List Value)} {c c1 : List Value} {cc : Array Value},
    partsC place ops qs = true → EvR φ F ρ (ops.map (·.2)) → partsOf (evParts F qs) = some ps → fill ps c = some c1 → VL φ c cc.toList →
    ∃ cc1, Instr.fill place cc (ops.map fun x => (x.1, ρ x.2)) = some cc1 ∧ VL φ c1 cc1.toList
  | [], [], ps, c, c1, cc, _, _, h2, h3, h4 => by
    simp only [evParts, partsOf, Option.some.injEq] at h2; subst h2
    simp only [fill, Option.some.injEq] at h3; subst h3
    exact ⟨cc, rfl, h4⟩
  | [], _ :: _, _, _, _, _, h, _, _, _, _ => by simp [partsC] at h
  | _ :: _, [], _, _, _, _, h, _, _, _, _ => by simp [partsC] at h
  | (i, x) :: ops, (o, n, y) :: qs, ps, c, c1, cc, h, hev, h2, h3, h4 => by
    simp only [partsC, Bool.and_eq_true] at h
    obtain ⟨⟨hp, hxy⟩, hr⟩ := h
    cases hpl : place i with
    | none => rw [hpl] at hp; cases hp
    | some on =>
      obtain ⟨o', n'⟩ := on
      rw [hpl] at hp
      simp only [Bool.and_eq_true] at hp
      have e1 := Nat.eq_of_beq_eq_true hp.1
      have e2 := Nat.eq_of_beq_eq_true hp.2
      subst e1; subst e2
      simp only [evParts, partsOf] at h2
      cases hc : (Nat.beq (vcells (y.ev F)).length n' && (vcells (y.ev F)).all oneCell) <;> rw [hc] at h2 <;> simp only [cond_true, cond_false] at h2
      · cases h2
      simp only [Bool.and_eq_true] at hc
      have hlen := Nat.eq_of_beq_eq_true hc.1
      obtain ⟨ps', h2', rfl⟩ := Option.map_eq_some_iff.1 h2
      simp only [fill] at h3
      obtain ⟨c', h31, h32⟩ := Option.bind_eq_some_iff.1 h3
      have hv := (hev x (by simp) y hxy).cells (oneCell_not_chan hc.2)
      obtain ⟨s1, s2, s3⟩ := splice?_some _ _ _ _ h31
      have hl : (ρ x).cells.toList.length = n' := hv.1 ▸ hlen
      have hsz : (ρ x).cells.size = n' := by simpa using hl
      have hcc : cc.size = c.length := by simpa using h4.1.symm
      obtain ⟨f1, f2⟩ := fill_cells (ρ x).cells.toList 0 o' cc (by omega)
      have hvl : VL φ c' (((ρ x).cells.toList.zipIdx 0).foldl (fun cs x => cs.setIfInBounds (o' + x.2) x.1) cc).toList := by
        refine ⟨?_, fun j hj => ?_⟩
        · rw [s2, ← hcc]; exact f1.symm
        · rw [s3]
          refine cast (congrArg (V φ _) (getD_toList _ _).symm) ?_
          rw [f2]
          simp only [Nat.add_zero]
          rw [hlen, hl]
          by_cases hh : o' ≤ j ∧ j < o' + n'
          · rw [if_pos hh, if_pos hh]
            exact hv.2 (j - o') (by omega)
          · rw [if_neg hh, if_neg hh, ← getD_toList]
            exact h4.2 j (by omega)
      have hev' : EvR φ F ρ (ops.map (·.2)) := fun z hz => hev z (List.mem_cons_of_mem _ hz)
      obtain ⟨cc1, r1, r2⟩ := sim_fill hr hev' h2' h32 hvl
      refine ⟨cc1, ?_, r2⟩
      simp only [List.map_cons, Instr.fill, hpl]
      have e3 : (decide ((ρ x).cells.size ≠ n') || decide (o' + (ρ x).cells.size > cc.size)) = false := by
        rw [hsz]
        simp
        omega
      rw [e3]
      simp only [Bool.false_eq_true, if_false]
      rw [← Array.foldl_toList, Array.toList_zipIdx]
      exact r1

theorem sim_build {t : TypeId} {ps : Array (Nat × Operand)} {zero : List Value} {qs : List (Nat × Nat × COpd)} {v : Value} (hc : pC P (.build t ps) (.build zero qs) = true)
    (hev : EvR φ F ρ (ps.toList.map (·.2))) (h : opBuild zero (evParts F qs) = some v) :
    ∃ v', (Instr.build t (ps.map fun x => (x.1, ρ x.2))).run P w = .ok v' w ∧ V φ v v' := by
  simp only [pC, Bool.and_eq_true] at hc
  obtain ⟨hz, hp⟩ := hc
  obtain ⟨c, hcs, rfl⟩ := Option.map_eq_some_iff.1 h
  obtain ⟨pp, hpp, hfl⟩ := Option.bind_eq_some_iff.1 hcs
  unfold zeroIs at hz
  cases hi : P.info? t with
  | none => simp only [hi] at hz; cases hz
  | some it =>
    cases hzv : it.zero with
    | none => simp only [hi, hzv] at hz; cases hz
    | some z =>
      simp only [hi, hzv] at hz
      have hzl : VL φ zero z.cells.toList := atomsC_VL hz
      cases hu : P.underlying t with
      | none => simp only [hu] at hp; cases hp
      | some d =>
        simp only [hu] at hp
        cases d <;> try (cases hp; done)
        case array n e =>
          dsimp only at hp
          cases hie : P.info? e with
          | none => simp only [hie] at hp; cases hp
          | some ie =>
            simp only [hie] at hp
            obtain ⟨cc1, r1, r2⟩ := sim_fill hp hev hpp hfl hzl
            refine ⟨.agg cc1, run_build w t _ cc1 ?_, ?_⟩
            · simp only [Program.built, hi, hu, hzv, hie, Array.toList_map]
              exact r1
            · obtain ⟨l⟩ := cc1; exact .agg' r2
        case struct fs =>
          dsimp only at hp
          cases hpl : fs.toList.mapM (fun f => (P.info? f.type).map fun i => (f.offset, i.size)) with
          | none => simp only [hpl] at hp; cases hp
          | some pl =>
            simp only [hpl] at hp
            obtain ⟨cc1, r1, r2⟩ := sim_fill hp hev hpp hfl hzl
            refine ⟨.agg cc1, run_build w t _ cc1 ?_, ?_⟩
            · simp only [Program.built, hi, hu, hzv, hpl, Array.toList_map]
              exact r1
            · obtain ⟨l⟩ := cc1; exact .agg' r2

end
end Go.Ev

