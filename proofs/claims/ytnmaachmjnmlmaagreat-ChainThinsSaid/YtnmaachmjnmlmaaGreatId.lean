/-
  What the law is handed, as values: words, bytes, points.

  The law of thin lines, in the model.
-/
import Derived.Test.YtnmaachmjnmlmaaGreatIc
import Derived.Test.YtnmaachmjnmlmaaGreatFp
set_option linter.unusedVariables false
set_option linter.unusedSimpArgs false
set_option linter.unusedSectionVars false
namespace Go.Iso
open Go.Ev

section
variable {H : Type} {enc : TypeId × Value → H} {P : Program} {w : World} {held : Bool}

theorem u64_wf {n : Int} (h : (Lit.int .u64 n).wf = true) : ∃ m : Nat, n = m ∧ m < 18446744073709551616 := by
  simp [Lit.wf, IntKind.min, IntKind.max, IntKind.signed, IntKind.bits] at h
  exact ⟨n.toNat, by omega, by omega⟩
theorem u8_wf {n : Int} (h : (Lit.int .u8 n).wf = true) : ∃ m : Nat, n = m := by
  simp [Lit.wf, IntKind.min, IntKind.max, IntKind.signed, IntKind.bits] at h
  exact ⟨n.toNat, by omega⟩

theorem rows_words : ∀ (es : List (List Value)), (∀ e ∈ es, ∃ m : Nat, m < 18446744073709551616 ∧ e = [u64 m]) → ∃ ws, es = W ws ∧ Wd ws
  | [], _ => ⟨[], rfl, Wd.nil⟩
  | e :: es, h => by
    obtain ⟨m, h1, rfl⟩ := h e List.mem_cons_self
    obtain ⟨ws, rfl, h2⟩ := rows_words es (fun e he => h e (List.mem_cons_of_mem _ he))
    exact ⟨m :: ws, rfl, Wd.mk h1 h2⟩
theorem rows_bytes : ∀ (es : List (List Value)), (∀ e ∈ es, ∃ m : Nat, e = [.int .u8 (m : Int)]) → ∃ bs, es = W8 bs
  | [], _ => ⟨[], rfl⟩
  | e :: es, h => by
    obtain ⟨m, rfl⟩ := h e List.mem_cons_self
    obtain ⟨ws, rfl⟩ := rows_bytes es (fun e he => h e (List.mem_cons_of_mem _ he))
    exact ⟨m :: ws, rfl⟩

theorem words_open {t e : TypeId} {fuel : Nat} {cs : List Value} {x : DataW H × List MemPlace} (ht : P.underlying t = some (.slice e)) (he : P.underlying e = some (.int .u64)) (hc : P.cellsOf e = 1)
    (h : DataW.trod enc P w 0 (fun _ => true) held fuel t cs = some x) : ∃ c v ws, cs = [c] ∧ V (φ0 w) v c ∧ oneCell v = true ∧ ∀ s, RawM s v ws := by
  obtain ⟨c, v, es, h1, h2, h3, h4, h5⟩ := open_rows ht hc (by omega) h (Q := fun e => ∃ m : Nat, m < 18446744073709551616 ∧ e = [u64 m]) (fun n cs' y hy hl => by
    obtain ⟨k, rfl, _, hw⟩ := DataW.trod_int he hy
    obtain ⟨m, rfl, hm⟩ := u64_wf hw
    exact ⟨[u64 m], VL.cons (.int _ _) (VL.nil _), m, hm, rfl⟩)
  obtain ⟨ws, rfl, hw⟩ := rows_words es h5
  exact ⟨c, v, ws, h1, h2, h3, fun s => ⟨fun s' _ => h4 s'.get, hw⟩⟩

theorem bytes_open {t e : TypeId} {fuel : Nat} {cs : List Value} {x : DataW H × List MemPlace} (ht : P.underlying t = some (.slice e)) (he : P.underlying e = some (.int .u8)) (hc : P.cellsOf e = 1)
    (h : DataW.trod enc P w 0 (fun _ => true) held fuel t cs = some x) : ∃ c v bs, cs = [c] ∧ V (φ0 w) v c ∧ oneCell v = true ∧ ∀ s, RowL s 1 v (W8 bs) := by
  obtain ⟨c, v, es, h1, h2, h3, h4, h5⟩ := open_rows ht hc (by omega) h (Q := fun e => ∃ m : Nat, e = [.int .u8 (m : Int)]) (fun n cs' y hy hl => by
    obtain ⟨k, rfl, _, hw⟩ := DataW.trod_int he hy
    obtain ⟨m, rfl⟩ := u8_wf hw
    exact ⟨[.int .u8 (m : Int)], VL.cons (.int _ _) (VL.nil _), m, rfl⟩)
  obtain ⟨bs, rfl⟩ := rows_bytes es h5
  exact ⟨c, v, bs, h1, h2, h3, fun s s' _ => h4 s'.get⟩

/-- The types of points. -/
structure SpotT (P : Program) (T Fq Nm Mg U Bl : TypeId) : Prop where
  spot : ∃ a b, P.underlying T = some (.struct #[a, b]) ∧ a.type = Fq ∧ a.offset = 0 ∧ b.type = Fq ∧ b.offset = 3
  frac : ∃ a b, P.underlying Fq = some (.struct #[a, b]) ∧ a.type = Nm ∧ a.offset = 0 ∧ b.type = Mg ∧ b.offset = 2
  num : ∃ a b, P.underlying Nm = some (.struct #[a, b]) ∧ a.type = Bl ∧ a.offset = 0 ∧ b.type = Mg ∧ b.offset = 1
  mag : P.underlying Mg = some (.slice U)
  u : P.underlying U = some (.int .u64)
  bl : P.underlying Bl = some .bool
  cT : P.cellsOf T = 6
  cF : P.cellsOf Fq = 3
  cN : P.cellsOf Nm = 2
  cM : P.cellsOf Mg = 1
  cU : P.cellsOf U = 1
  cB : P.cellsOf Bl = 1

theorem frac_open {T Fq Nm Mg U Bl : TypeId} (A : SpotT P T Fq Nm Mg U Bl) {fuel : Nat} {cs : List Value} {x : DataW H × List MemPlace} (h : DataW.trod enc P w 0 (fun _ => true) held fuel Fq cs = some x) :
    ∃ b v d xs ys, VL (φ0 w) [.bool b, v, d] cs ∧ oneCell v = true ∧ oneCell d = true ∧ (∀ s, RawM s v xs) ∧ ∀ s, RawM s d ys := by
  obtain ⟨fa, fb, hF, ta, oa, tb, ob⟩ := A.frac
  obtain ⟨y0, y1, n, _, hl, h0, h1⟩ := ChangeShapes.trod_struct2 hF h
  rw [A.cF] at hl
  rw [ta, oa, A.cN] at h0
  rw [tb, ob, A.cM] at h1
  obtain ⟨fc, fd, hN, tc, oc, td, od⟩ := A.num
  obtain ⟨y2, y3, m, _, hl2, h2, h3⟩ := ChangeShapes.trod_struct2 hN h0
  rw [tc, oc, A.cB] at h2
  rw [td, od, A.cM] at h3
  obtain ⟨b, hb, _⟩ := DataW.trod_bool A.bl h2
  obtain ⟨c1, v, xs, e1, v1, o1, r1⟩ := words_open A.mag A.u A.cU h3
  obtain ⟨c2, d, ys, e2, v2, o2, r2⟩ := words_open A.mag A.u A.cU h1
  match cs, hl with
  | [k0, k1, k2], _ =>
    simp at hb e1 e2
    subst hb e1 e2
    exact ⟨b, v, d, xs, ys, VL.cons (.bool b) (VL.cons v1 (VL.cons v2 (VL.nil _))), o1, o2, r1, r2⟩

theorem spots_open {t T Fq Nm Mg U Bl : TypeId} (A : SpotT P T Fq Nm Mg U Bl) (ht : P.underlying t = some (.slice T)) {fuel : Nat} {cs : List Value} {x : DataW H × List MemPlace}
    (h : DataW.trod enc P w 0 (fun _ => true) held fuel t cs = some x) :
    ∃ (c v : Value) (es : List (List Value)) (qs : List (Rat × Rat)), cs = [c] ∧ V (φ0 w) v c ∧ oneCell v = true ∧ (∀ s, RowL s 6 v es) ∧ es.length = qs.length ∧ ∀ s i, i < qs.length → RawS s (es.getD i []) (qs.getD i (0, 0)) := by
  obtain ⟨c, v, es, h1, h2, h3, h4, h5⟩ := open_rows ht A.cT (by omega) h (Q := fun e => ∃ p, ∀ s, RawS s e p) (fun n cs' y hy hl => by
    obtain ⟨fa, fb, hF, ta, oa, tb, ob⟩ := A.spot
    obtain ⟨y0, y1, n, _, hl, h0, h1⟩ := ChangeShapes.trod_struct2 hF hy
    rw [ta, oa, A.cF] at h0
    rw [tb, ob, A.cF] at h1
    rw [A.cT] at hl
    obtain ⟨b1, v1, w1, x1, y1, l1, p1, q1, r1, s1⟩ := frac_open A h0
    obtain ⟨b2, v2, w2, x2, y2, l2, p2, q2, r2, s2⟩ := frac_open A h1
    refine ⟨[.bool b1, v1, w1, .bool b2, v2, w2], ?_, (tameQ b1 x1 y1, tameQ b2 x2 y2), fun s => ⟨⟨b1, v1, w1, b2, v2, w2, x1, y1, x2, y2, rfl, r1 s, s1 s, r2 s, s2 s, rfl⟩, fun c hc => ?_⟩⟩
    · have := l1.append l2
      rw [show (cs'.drop 0).take 3 ++ (cs'.drop 3).take 3 = cs' by
        rw [List.drop_zero, List.take_of_length_le (l := cs'.drop 3) (by simp; omega), List.take_append_drop]] at this
      exact this
    · simp only [List.mem_cons, List.not_mem_nil, or_false] at hc
      rcases hc with rfl | rfl | rfl | rfl | rfl | rfl <;> first | rfl | assumption)
  have hch : ∀ e : List Value, ∃ p : Rat × Rat, e ∈ es → ∀ s, RawS s e p := fun e => by
    by_cases he : e ∈ es
    · obtain ⟨p, hp⟩ := h5 e he
      exact ⟨p, fun _ => hp⟩
    · exact ⟨(0, 0), fun h => absurd h he⟩
  obtain ⟨f, hf⟩ := Classical.axiomOfChoice hch
  refine ⟨c, v, es, es.map f, h1, h2, h3, fun s s' _ => h4 s'.get, by simp, fun s i hi => ?_⟩
  have hi' : i < es.length := by simpa using hi
  have e1 : es.getD i [] = es[i] := by simp [List.getD, hi']
  have e2 : (es.map f).getD i (0, 0) = f es[i] := by simp [List.getD, hi']
  rw [e1, e2]
  exact hf _ (List.getElem_mem _) s
end
end Go.Iso

namespace Go.Iso
open Go.Ev
variable {prog : Nat → Option CDecl} [A0 : Arith prog]

theorem thins_calls {H : Type} {enc : TypeId × Value → H} {P : Program} (K : POk P prog) {w : World} {held : Bool} {tl tr T Fq Nm Mg U Bl U8 : TypeId} (A : SpotT P T Fq Nm Mg U Bl) (hl : P.underlying tl = some (.slice T))
    (hr : P.underlying tr = some (.slice U8)) (h8 : P.underlying U8 = some (.int .u8)) (hc8 : P.cellsOf U8 = 1) (hfit : Ret prog (fv n_l20_fit) [] st0 (.bool true) st0)
    {v0 v1 : Value} {f0 f1 : Nat} {x0 x1 : DataW H × List MemPlace} (h0 : DataW.trod enc P w 0 (fun _ => true) held f0 tl [v0] = some x0) (h1 : DataW.trod enc P w 0 (fun _ => true) held f1 tr [v1] = some x1) (c : Bool) :
    Calls P n_l20_ChainThins #[v0, v1, .bool c] w fun e w' => e = .returned (.bool true) ∧ RowKit.Grown w w' ∧ RowKit.Below w.heap.size w w' := by
  obtain ⟨c0, lv, es, qs, e0, hv0, _, hrow, hlen, hraw⟩ := spots_open A hl h0
  obtain ⟨c1, rv, bs, e1, hv1, _, hrow8⟩ := bytes_open hr h8 hc8 h1
  cases e0
  cases e1
  refine calls_true K p_law rfl (VL.cons hv0 (VL.cons hv1 (VL.cons (.bool c) (VL.nil _)))) ?_
  exact law_true (fun i _ => rfl) rfl (hrow st0) (fun h8 => ⟨hrow st0, hlen, hraw st0, by omega, hrow8 st0⟩) hfit
end Go.Iso

