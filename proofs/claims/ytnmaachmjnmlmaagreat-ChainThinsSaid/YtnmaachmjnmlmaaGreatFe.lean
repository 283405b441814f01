/-
  What is made: a new block on both sides.
-/
import Derived.Test.YtnmaachmjnmlmaaGreatFd
import Derived.Great.BuildSlice
import Derived.Laws.MakeOwn
set_option linter.unusedVariables false
set_option linter.unusedSimpArgs false
set_option linter.unusedSectionVars false
namespace Go.Ev

theorem reps_length {α : Type} (l : List α) : ∀ n, (reps l n).length = n * l.length
  | 0 => by simp [reps]
  | n + 1 => by simp [reps, reps_length l n, Nat.succ_mul, Nat.add_comm]

theorem reps_getD {α : Type} (l : List α) (d : α) : ∀ n i, i < n * l.length → (reps l n).getD i d = l.getD (i % l.length) d
  | 0, i, h => by simp at h
  | n + 1, i, h => by
    have hl : 0 < l.length := by
      rcases Nat.eq_zero_or_pos l.length with h0 | h0
      · rw [h0] at h; simp at h
      · exact h0
    rw [Nat.succ_mul] at h
    unfold reps
    by_cases hi : i < l.length
    · rw [Nat.mod_eq_of_lt hi]
      simp [List.getD, List.getElem?_append_left hi]
    · have h1 := reps_getD l d n (i - l.length) (by omega)
      rw [Nat.mod_eq_sub_mod (by omega), ← h1]
      simp [List.getD, List.getElem?_append_right (Nat.le_of_not_lt hi)]

section
variable {P : Program} {φ : Emb} {H : Get} {w : World} {F : Fr} {ρ : Operand → Value}

theorem VL_reps {zero : List Value} {zs : Array Value} (h : VL φ zero zs.toList) (n : Nat) :
    VL φ (reps zero n) ((Array.range (n * zero.length)).map (zs[· % zs.size]!)).toList := by
  have hl : zero.length = zs.size := by simpa using h.1
  refine ⟨by simp [reps_length], fun i hi => ?_⟩
  rw [reps_length] at hi
  rw [reps_getD zero undf n i hi]
  have hp : 0 < zero.length := by
    rcases Nat.eq_zero_or_pos zero.length with h0 | h0
    · rw [h0] at hi; simp at hi
    · exact h0
  have hm : i % zero.length < zero.length := Nat.mod_lt _ hp
  have := h.2 (i % zero.length) hm
  have e : ((Array.range (n * zero.length)).map (zs[· % zs.size]!)).toList.getD i undf = zs.toList.getD (i % zero.length) undf := by
    rw [← hl]
    have hm' : i % zero.length < zs.size := hl ▸ hm
    simp [List.getD, hi, hm', getElem!_pos]
  rw [e]
  exact this

/-- Cells that are laid behind all others. -/
theorem cells_new {φ : Emb} {i b : Nat} {c : List Value} {cc : Array Value} {el : TypeId} (hi : φ.blk i = none) (h : VL φ c cc.toList) :
    ObjRel P (φ.add i b 0 cc.size) (some (.cells false c)) 0 cc.size (some (.cells cc el (0, 0))) := by
  have hx := Emb.add_ext hi b 0 cc.size
  refine ⟨cc, el, (0, 0), rfl, rfl, by have := h.1; simp at this; omega, fun j hj => ?_, ⟨rfl, rfl⟩⟩
  have := (h.2 j hj).mono hx
  simpa [List.getD] using this

theorem ptr_new {φ : Emb} {i b sz : Nat} : V (φ.add i b 0 sz) (.pointer (some ⟨i, 0, none⟩)) (.pointer (some ⟨b, 0, none⟩)) := by
  have : (φ.add i b 0 sz).blk i = some (b, 0, sz) := by simp [Emb.add]
  simpa using V.ptr (o := 0) this

theorem sl_new {φ : Emb} {i b n z : Nat} (hz : 0 < z) : V (φ.add i b 0 (n * z)) (.slice (some ⟨i, 0, none⟩) n z) (.slice (some ⟨b, 0, none⟩) n n) := by
  have : (φ.add i b 0 (n * z)).blk i = some (b, 0, n * z) := by simp [Emb.add]
  exact V.sl (o := 0) (o' := 0) this (Nat.le_refl _) (by omega) hz (.inl rfl)

theorem zeroIs_some {t : TypeId} {zero : List Value} (h : zeroIs P t zero = true) : ∃ i z, P.info? t = some i ∧ i.zero = some z ∧ VL φ zero z.cells.toList := by
  unfold zeroIs at h
  cases hi : P.info? t with
  | none => simp only [hi] at h; cases h
  | some it =>
    cases hzv : it.zero with
    | none => simp only [hi, hzv] at h; cases h
    | some z =>
      simp only [hi, hzv] at h
      exact ⟨it, z, rfl, hzv, atomsC_VL h⟩

theorem fill_len : ∀ {ps : List (Nat × List Value)} {c c1 : List Value}, fill ps c = some c1 → c1.length = c.length
  | [], c, c1, h => by
    simp only [fill, Option.some.injEq] at h
    rw [h]
  | (o, vs) :: ps, c, c1, h => by
    simp only [fill] at h
    obtain ⟨c2, h1, h2⟩ := Option.bind_eq_some_iff.1 h
    rw [fill_len h2, (splice?_some o vs c c2 h1).2.1]

theorem push_alloc (w : World) (o : Obj) : w.alloc o = push w o := rfl

theorem bif_some {α : Type} {b : Bool} {x : Option α} {v : α} (h : (bif b then x else none) = some v) : b = true ∧ x = some v := by
  cases b with
  | false => cases h
  | true => exact ⟨rfl, h⟩

theorem sim_a {o : Oper} {x : AOp} {i : Nat} {v : Value} {ob : IObj} (hc : aC P o.op x = true) (hi : φ.blk i = none) (hev : EvR φ F ρ o.op.operands.toList) (h : evA F i x = some (v, ob)) :
    ∃ v' co sz, (execOp ρ o).run P w = .ok (.value v') (push w co) ∧ V (φ.add i w.heap.size 0 sz) v v' ∧ ObjRel P (φ.add i w.heap.size 0 sz) (some ob) 0 sz (some co) := by
  obtain ⟨dst, op, type, pos, after, guard⟩ := o
  dsimp only at hc hev
  unfold aC at hc
  split at hc
  · rename_i t zero
    obtain ⟨it, z, h1, h2, h3⟩ := zeroIs_some (φ := φ) hc
    simp only [evA, Option.some.injEq, Prod.mk.injEq] at h
    obtain ⟨rfl, rfl⟩ := h
    refine ⟨_, .cells z.cells t (0, 0), z.cells.size, ?_, ptr_new, cells_new hi h3⟩
    simp [execOp, Instr.alloc, newVar, newRow, zeroValue, typeInfo, h1, h2, push_alloc]
  · rename_i t x x'
    have h1 := hev x (by simp [Op.operands]) x' hc
    simp only [evA, opBox] at h
    obtain ⟨ho, h⟩ := bif_some h
    simp only [Option.some.injEq, Prod.mk.injEq] at h
    obtain ⟨rfl, rfl⟩ := h
    have hv := h1.cells (oneCell_not_chan ho)
    refine ⟨_, .cells (ρ x).cells t (0, 0), (ρ x).cells.size, ?_, ptr_new, cells_new hi hv⟩
    simp [execOp, Instr.box, newVar, newRow, push_alloc]
  · rename_i t len ps z len' zero qs
    simp only [Bool.and_eq_true] at hc
    obtain ⟨⟨⟨⟨ht, hl⟩, hs⟩, hp⟩, hn⟩ := hc
    split at ht
    · rename_i e hse
      simp only [Bool.and_eq_true] at ht
      obtain ⟨⟨⟨hsz, hz⟩, hzl⟩, hz1⟩ := ht
      obtain ⟨it, zz, h1, h2, h3⟩ := zeroIs_some (φ := φ) hz
      have hll := Nat.eq_of_beq_eq_true hl
      have hzl := Nat.eq_of_beq_eq_true hzl
      have hz1 := Nat.le_of_ble_eq_true hz1
      have hn := Nat.le_of_ble_eq_true hn
      have hs := Nat.le_of_ble_eq_true hs
      subst hll
      have hsz' : it.size = z := by
        unfold sizeIs at hsz
        simp only [h1] at hsz
        exact Nat.eq_of_beq_eq_true hsz
      simp only [evA, opBuildSlice, Option.map_eq_some_iff] at h
      obtain ⟨c, hcs, hh⟩ := h
      obtain ⟨pp, hpp, hfl⟩ := Option.bind_eq_some_iff.1 hcs
      simp only [Prod.mk.injEq] at hh
      obtain ⟨rfl, rfl⟩ := hh
      have hev' : EvR φ F ρ (ps.toList.map (·.2)) := fun y hy => hev y (by simpa [Op.operands] using hy)
      have h4 := VL_reps h3 len
      rw [hzl] at h4
      obtain ⟨cc1, r1, r2⟩ := sim_fill hp hev' hpp hfl h4
      have hcc : cc1.size = len * z := by
        have a := fill_len hfl
        have b := r2.1
        rw [reps_length, hzl] at a
        simp only [Array.length_toList] at b
        omega
      refine ⟨_, .cells cc1 e (0, 0), cc1.size, ?_, hcc ▸ sl_new hz1, cells_new hi r2⟩
      have hpos : len * z ≠ 0 := Nat.ne_of_gt (Nat.mul_pos hn hz1)
      have := run_buildSlice (P := P) w t e len (ps.map fun x => (x.1, ρ x.2)) cc1 it zz (sliceOf_some hse) h1 h2 (by rw [hsz']; omega) (by rw [hsz']; exact hpos) (by simpa [hsz'] using r1)
      simp [execOp, this, push_alloc]
    · cases ht
  · simp only [evA, Option.some.injEq, Prod.mk.injEq] at h
    obtain ⟨rfl, rfl⟩ := h
    refine ⟨.map (some w.heap.size), .map #[] 0, 0, ?_, .map (by simp [Emb.add]; exact ⟨rfl, rfl⟩), ⟨#[], 0, rfl, .nil⟩⟩
    simp [execOp, Instr.makeMap, push_alloc]
  · rename_i t l c z b zero l' c'
    simp only [Bool.and_eq_true] at hc
    obtain ⟨⟨ht, hl⟩, hcc⟩ := hc
    split at ht
    · rename_i e hse
      simp only [Bool.and_eq_true] at ht
      obtain ⟨⟨⟨⟨hsz, hb⟩, hz⟩, hzl⟩, hz1⟩ := ht
      obtain ⟨it, zz, h1, h2, h3⟩ := zeroIs_some (φ := φ) hz
      have hzl := Nat.eq_of_beq_eq_true hzl
      have hz1 := Nat.le_of_ble_eq_true hz1
      have hsz' : it.size = z := by
        unfold sizeIs at hsz
        simp only [h1] at hsz
        exact Nat.eq_of_beq_eq_true hsz
      have hb' : it.bytes = b := by
        unfold bytesIs at hb
        simp only [h1] at hb
        exact Nat.eq_of_beq_eq_true hb
      have e1 := hev l (by simp [Op.operands]) l' hl
      have e2 := hev c (by simp [Op.operands]) c' hcc
      simp only [evA, opMakeSlice] at h
      split at h
      · rename_i n m hl' hc'
        obtain ⟨hg, hq⟩ := bif_some h
        simp only [Bool.and_eq_true] at hg
        obtain ⟨⟨g1, g2⟩, g3⟩ := hg
        have g1 := Nat.eq_of_beq_eq_true g1
        have g2 := Nat.le_of_ble_eq_true g2
        have g3 := Nat.le_of_ble_eq_true g3
        clear h
        subst g1
        rw [hl'] at e1
        rw [hc'] at e2
        have h4 := VL_reps h3 n
        rw [hzl] at h4
        have hh := Option.some.inj hq
        have hv := congrArg Prod.fst hh
        have ho := congrArg Prod.snd hh
        dsimp only at hv ho
        subst hv
        subst ho
        have hm : mostBytes = 70368744177664 := by decide
        rw [hm] at g2 g3
        have h5 := run_make (P := P) w t e it zz (sliceOf_some hse) h1 h2 .i64 .i64 (n : Int) (n : Int) (by omega) (by omega)
          (by rw [hb', Nat.mul_comm] at *; omega) (by omega)
        refine ⟨.slice (some ⟨w.heap.size, 0, none⟩) n n, .cells (madeCells zz.cells (n * z)) e (0, 0), n * z, ?_, sl_new hz1, ?_⟩
        · have a1 := e1.inv_int
          have a2 := e2.inv_int
          simp only [Int.ofNat_eq_natCast] at a1 a2
          simp [execOp, a1, a2, h5, push_alloc, hsz']
        · have := cells_new (P := P) (b := w.heap.size) (el := e) hi h4
          simpa [madeCells] using this
      · cases h
    · cases ht
  · cases hc

end
end Go.Ev

