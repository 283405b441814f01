/-
  Functions whose answers at some arguments are known: by evaluations from the empty memory.
-/
import Derived.Test.YtnmaachmjnmlmaaGreatFj
set_option linter.unusedVariables false
set_option linter.unusedSimpArgs false
set_option linter.unusedSectionVars false
namespace Go.Ev

def closedA : Value → Bool
  | .bool _ => true
  | .int _ _ => true
  | .string _ => true
  | .pointer none => true
  | .map none => true
  | .nilFunc => true
  | .slice none 0 0 => true
  | _ => false
/-- No block of memory takes part in it. -/
def closedF : Nat → Value → Bool
  | f + 1, .iface _ (.agg ⟨es⟩) => (es.flatMap vcells).all (closedF f)
  | f + 1, .agg ⟨l⟩ => l.all (closedF f)
  | f + 1, .tuple ⟨l⟩ => l.all (closedF f)
  | _, v => closedA v

theorem closedA_V {φ φ' : Emb} {x y : Value} (h : closedA x = true) (v : V φ x y) : V φ' x y := by
  cases v <;> first | (cases h; done) | constructor

theorem V.closed {φ φ' : Emb} (him : ∀ b cc, φ.im b = some cc → φ'.im b = some cc) : ∀ (f : Nat) {x y : Value}, closedF f x = true → V φ x y → V φ' x y
  | 0, x, y, h, v => closedA_V (by simpa [closedF] using h) v
  | f + 1, x, y, h, v => by
    have ih := fun {x y : Value} => V.closed him f (x := x) (y := y)
    have ihL : ∀ (l : List Value), l.all (closedF f) = true → ∀ j, j < l.length → closedF f (l.getD j undf) = true := fun l hl j hj => by
      have := List.all_eq_true.1 hl l[j] (List.getElem_mem _)
      simpa [List.getD, hj] using this
    cases v with
    | agg e g =>
      simp only [closedF] at h
      exact .agg e fun i hi => ih (ihL _ h i hi) (g i hi)
    | tuple e g =>
      simp only [closedF] at h
      exact .tuple e fun i hi => ih (ihL _ h i hi) (g i hi)
    | imsl e a b c d g k =>
      rename_i z b0 o n cap es cc
      simp only [closedF] at h
      refine .imsl (him _ _ e) a b c d g fun j hj => ih (ihL _ h j ?_) (k j hj)
      rw [flatMap_len g, b]
      exact hj
    | iesl a b => exact .iesl a b
    | imptr e a g => simp [closedF, closedA] at h
    | unk c => simp [closedF, closedA] at h
    | ptr e => simp [closedF, closedA] at h
    | sl e a b c d => simp [closedF, closedA] at h
    | map e => simp [closedF, closedA] at h
    | fn e g => simp [closedF, closedA] at h
    | yield e => simp [closedF, closedA] at h
    | nif => simp [closedF, closedA] at h
    | _ => constructor

theorem VL.closed {φ φ' : Emb} (him : ∀ b cc, φ.im b = some cc → φ'.im b = some cc) {f : Nat} {xs ys : List Value} (h : xs.all (closedF f) = true) (v : VL φ xs ys) : VL φ' xs ys :=
  ⟨v.1, fun i hi => V.closed him f (by
    have := List.all_eq_true.1 h xs[i] (List.getElem_mem _)
    simpa [List.getD, hi] using this) (v.2 i hi)⟩

/-- What is known of a function. -/
abbrev Known := List (List Value × Value)
def memo : Known → List Value → Option Value
  | [], _ => none
  | (a, v) :: r, args => bif vsames1 a args then some v else memo r args
theorem memo_mem : ∀ {L : Known} {args : List Value} {v : Value}, memo L args = some v → (args, v) ∈ L
  | [], _, _, h => by cases h
  | (a, x) :: r, args, v, h => by
    unfold memo at h
    cases hb : vsames1 a args with
    | true =>
      rw [hb] at h
      cases h
      rw [vsames1_eq hb]
      exact List.mem_cons_self
    | false =>
      rw [hb] at h
      exact List.mem_cons_of_mem _ (memo_mem h)

/-- It is answered so. -/
def Answers (prog : Nat → Option CDecl) (fid : Nat) (x : List Value × Value) : Prop :=
  x.1.all (closedF 8) = true ∧ closedF 8 x.2 = true ∧ ∃ n s1, callV prog n (.func (.func fid) ⟨[]⟩ ⟨[]⟩) x.1 ⟨0, 0, .leaf⟩ = some (x.2, s1)
def sameV (x y : Value) : Bool :=
  match x, y with
  | .tuple ⟨a⟩, .tuple ⟨b⟩ => vsames1 a b
  | x, y => vsames1 [x] [y]
theorem sameV_eq {x y : Value} (h : sameV x y = true) : x = y := by
  unfold sameV at h
  split at h
  · rw [vsames1_eq h]
  · have := vsames1_eq h
    cases this
    rfl
def answersB (prog : Nat → Option CDecl) (n fid : Nat) (x : List Value × Value) : Bool :=
  x.1.all (closedF 8) && (closedF 8 x.2 && match callV prog n (.func (.func fid) ⟨[]⟩ ⟨[]⟩) x.1 ⟨0, 0, .leaf⟩ with
    | some (v, _) => sameV v x.2
    | none => false)
theorem answers_of {prog : Nat → Option CDecl} {n fid : Nat} {x : List Value × Value} (h : answersB prog n fid x = true) : Answers prog fid x := by
  unfold answersB at h
  simp only [Bool.and_eq_true] at h
  obtain ⟨h1, h2, h3⟩ := h
  refine ⟨h1, h2, ?_⟩
  split at h3
  · rename_i v s1 he
    cases sameV_eq h3
    exact ⟨n, s1, he⟩
  · cases h3
def Ans (prog : Nat → Option CDecl) (fid : Nat) (L : Known) : Prop := ∀ x ∈ L, Answers prog fid x
theorem ans_of {prog : Nat → Option CDecl} {n fid : Nat} {L : Known} (h : L.all (answersB prog n fid) = true) : Ans prog fid L :=
  fun x hx => answers_of (List.all_eq_true.1 h x hx)
theorem Ans.append {prog : Nat → Option CDecl} {fid : Nat} {L M : Known} (a : Ans prog fid L) (b : Ans prog fid M) : Ans prog fid (L ++ M) := fun x hx => by
  rcases List.mem_append.1 hx with h | h
  · exact a x h
  · exact b x h

theorem prim_memo {P : Program} {prog : Nat → Option CDecl} (K : POk P prog) {fid : Nat} {L : Known} (h : Ans prog fid L) : PrimOk P fid (memo L) := by
  intro B0 φ s w args args' v g ha hp
  obtain ⟨c1, c2, n, s1, hcall⟩ := h _ (memo_mem hp)
  dsimp only at c1 c2 hcall
  let φE : Emb := ⟨fun _ => none, φ.im⟩
  have gE : Good P B0 φE ⟨0, 0, .leaf⟩ w := by
    refine ⟨⟨fun i b δ sz e => ?_, fun i b δ sz e => ?_, fun i j b x y _ e => ?_, fun i b x e => ?_, fun b cc e => ?_, fun i b x e => ?_⟩, fun i _ => ⟨rfl, ?_⟩, Nat.le_refl _, g.B0⟩
    · cases e
    · cases e
    · cases e
    · cases e
    · exact g.rel.imo b cc e
    · cases e
    · rfl
  obtain ⟨φ1, w1, v1, st, hv, hc⟩ := sim_call (B0 := B0) K n φE ⟨0, 0, .leaf⟩ w _ (.func (.func fid) ⟨[]⟩ ⟨[]⟩) args args' _ _ gE (.fn rfl (fun i hi => by cases hi)) (VL.closed (φ := φ) (φ' := φE) (fun _ _ e => e) c1 ha) hcall
  have keep : ∀ b, b < w.heap.size → w1.heap[b]? = w.heap[b]? := fun b hb => st.tr.keep b hb fun i x hi e => by cases e
  have hext : Ext φ ⟨φ.blk, φ1.im⟩ := ⟨fun _ _ e => e, fun b cc e => st.tr.ext.im b cc e⟩
  refine ⟨⟨φ.blk, φ1.im⟩, w1, v1, ⟨⟨⟨fun i b δ sz e => ?_, fun i b δ sz e => ?_, g.rel.sep, g.rel.base, fun b cc e => ?_, fun i b x e hw => ?_⟩, g.fresh, g.wm, Nat.le_trans g.B0 st.tr.size⟩,
    ⟨hext, st.tr.os, st.tr.tape, st.tr.output, st.tr.size, fun b hb _ => keep b hb, fun i b x hi e h => .inr ⟨i, x, hi, e, h⟩, fun b cc e => st.tr.newim b cc e, st.tr.ice⟩, rfl, Nat.le_refl _, fun _ _ => rfl, fun _ _ h => h, fun _ _ h => ⟨h, rfl⟩⟩, V.closed (φ := φ1) (φ' := ⟨φ.blk, φ1.im⟩) (fun _ _ e => e) 8 c2 hv, ?_⟩
  · exact Nat.lt_of_lt_of_le (g.rel.lt i b δ sz e) st.tr.size
  · rw [keep b (g.rel.lt i b δ sz e)]
    exact (g.rel.obj i b δ sz e).mono hext
  · exact st.good.rel.imo b cc e
  · cases hh : φ1.im b with
    | none => rfl
    | some cc =>
      rcases st.tr.newim b cc hh with h1 | h1
      · have h2 := g.rel.imsep i b x e hw
        have h1 : φ.im b = some cc := h1
        rw [h2] at h1
        cases h1
      · have := g.rel.lt i b x.1 x.2 e
        omega
  · rw [ofValue_fn] at hc
    simpa using hc

/-- A table in which one function's answers are known. -/
def setP (prog : Nat → Option CDecl) (fid : Nat) (p : List Value → Option Value) : Nat → Option CDecl := fun n => bif Nat.beq n fid then some (.prim p) else prog n
theorem setP_ne {prog : Nat → Option CDecl} {fid : Nat} {p : List Value → Option Value} {n : Nat} {d : CDecl} (h : setP prog fid p n = some d) : (n = fid ∧ d = .prim p) ∨ prog n = some d := by
  unfold setP at h
  cases hb : Nat.beq n fid with
  | true =>
    rw [hb] at h
    cases h
    exact .inl ⟨Nat.eq_of_beq_eq_true hb, rfl⟩
  | false =>
    rw [hb] at h
    exact .inr h
theorem POk.set {P : Program} {prog : Nat → Option CDecl} {fid : Nat} {p : List Value → Option Value} (K : POk P prog) (h : PrimOk P fid p) : POk P (setP prog fid p) := by
  refine ⟨K.mix, fun f cf e => ?_, fun f e => ?_, fun f e => ?_, fun f q e => ?_⟩
  · rcases setP_ne e with ⟨_, h1⟩ | h1
    · cases h1
    · exact K.fn f cf h1
  · rcases setP_ne e with ⟨_, h1⟩ | h1
    · cases h1
    · exact K.add f h1
  · rcases setP_ne e with ⟨_, h1⟩ | h1
    · cases h1
    · exact K.sub f h1
  · rcases setP_ne e with ⟨rfl, h1⟩ | h1
    · cases h1
      exact h
    · exact K.prim f q h1
end Go.Ev

