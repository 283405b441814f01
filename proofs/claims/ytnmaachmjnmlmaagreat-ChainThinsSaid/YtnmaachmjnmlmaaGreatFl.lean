/-
  From the evaluator to the model: calls from a world whose blocks are all handed in as values.
-/
import Derived.Test.YtnmaachmjnmlmaaGreatFj
import Derived.Test.YtnmaachmjnmlmaaGreatFk
import Derived.Calls
import Derived.RowKit3
import Derived.Below
set_option linter.unusedVariables false
set_option linter.unusedSimpArgs false
set_option linter.unusedSectionVars false
namespace Go.Ev

/-- No block; what the world's blocks hold, as values. -/
def φ0 (w : World) : Emb := ⟨fun _ => none, fun b => match w.heap[b]? with
  | some (.cells cc _ _) => some cc
  | _ => none⟩
def st0 : St := ⟨0, 0, .leaf⟩
theorem φ0_im {w : World} {b : Nat} {cc : Array Value} {el : TypeId} {fz : Nat × Nat} (h : w.heap[b]? = some (.cells cc el fz)) : (φ0 w).im b = some cc := by
  simp [φ0, h]
theorem good0 (P : Program) (w : World) : Good P 0 (φ0 w) st0 w := by
  refine ⟨⟨fun i b δ sz e => ?_, fun i b δ sz e => ?_, fun i j b x y _ e => ?_, fun i b x e => ?_, fun b cc e => ?_, fun i b x e => ?_⟩, fun i _ => ⟨rfl, rfl⟩, Nat.le_refl _, Nat.zero_le _⟩
  · cases e
  · cases e
  · cases e
  · cases e
  · show ∃ el fz, w.heap[b]? = some (.cells cc el fz)
    have e : (match w.heap[b]? with
      | some (.cells cc _ _) => some cc
      | _ => none) = some cc := e
    split at e
    · rename_i h
      cases e
      exact ⟨_, _, h⟩
    · cases e
  · cases e

theorem calls_true {P : Program} {prog : Nat → Option CDecl} (K : POk P prog) {fid : Nat} {cf : CFunc} (hp : prog fid = some (.fn cf)) (hpure : cf.pure = false) {args args' : List Value} {w : World} (ha : VL (φ0 w) args args')
    (h : WCall prog (.func (.func fid) ⟨[]⟩ ⟨[]⟩) args st0 fun v _ => v = .bool true) :
    Calls P fid ⟨args'⟩ w fun e w' => e = .returned (.bool true) ∧ RowKit.Grown w w' ∧ RowKit.Below w.heap.size w w' := by
  obtain ⟨v, s', ⟨N, hN⟩, rfl⟩ := h
  have hN := hN (N + 1) (by omega)
  simp only [callV, hp, runFn, hpure, cond_false, List.append_nil] at hN
  obtain ⟨hck, hN⟩ := check_some hN
  obtain ⟨fn, hfn, hfc, hnm⟩ := K.fn fid cf hp
  obtain ⟨φ1, w1, v1, st, hv, hs⟩ := sim_fn (sim_call (B0 := 0) K N) K.mix hfn hfc (good0 P w) ha (Nat.le_of_ble_eq_true hck) hN
  rw [hv.inv_bool] at hs
  have keep : ∀ b, b < w.heap.size → w1.heap[b]? = w.heap[b]? := fun b hb => st.tr.keep b hb fun i x hi e => by cases e
  intro cs
  obtain ⟨fr, s1, s2, s3⟩ := hs cs
  refine ⟨_, w1, fr, ⟨rfl, ⟨⟨st.tr.os, st.tr.output, fun i hi => ?_⟩, fun a => ?_, st.tr.size⟩, ⟨st.tr.os, st.tr.tape, st.tr.output, st.tr.size, fun i hi => keep i hi⟩⟩, s1, s2, s3⟩
  · rw [keep i hi]
    cases w.heap[i]? with
    | none => rfl
    | some o => cases o with
      | cells c t fr => exact ⟨rfl, rfl, rfl, fun _ _ => rfl⟩
      | map es clock => exact .inr ⟨rfl, rfl⟩
      | _ => rfl
  · by_cases ha : a.block < w.heap.size
    · unfold World.frozen?
      rw [keep _ ha]
    · have h0 : w.heap[a.block]? = none := by simp; omega
      unfold World.frozen?
      rw [h0]
      split
      · rename_i c el lo hi h1
        by_cases hz : (lo, hi) = (0, 0)
        · cases hz
          simp
        · have := st.tr.ice a.block c el (lo, hi) h1 hz
          rw [h0] at this
          cases this
      · rfl
end Go.Ev

