/-
  Equality; keys; maps.

  The operations that only compute, or read: all of them.

  The operations that only compute, or read: all of them, by the checker.
-/
import Derived.Test.YtnmaachmjnmlmaaGreatFc
import Derived.Laws.Strings
set_option linter.unusedVariables false
set_option linter.unusedSimpArgs false
set_option linter.unusedSectionVars false
namespace Go.Ev

section
variable {P : Program} {φ : Emb} {H : Get} {w : World} {B0 : Nat} {F : Fr} {ρ : Operand → Value}

theorem atomTy_spec {t : TypeId} {b : Bool} (h : atomTy P t b = true) : (b = true ∧ ∃ k, P.underlying t = some (.int k)) ∨ (b = false ∧ P.underlying t = some .bool) := by
  unfold atomTy at h
  split at h
  · rename_i hu; cases b <;> simp_all
  · rename_i k hu; cases b <;> simp_all
  · cases h

theorem run_equal_atom {t : TypeId} {b r : Bool} {x y x' y' : Value} (d : Nat) (ht : atomTy P t b = true) (h : atomEq b x y = some r) (hx : V φ x x') (hy : V φ y y') :
    (Op.equalIn (d + 1) t x' y').run P w = .ok r w := by
  unfold atomEq at h
  split at h
  · rename_i b1 b2
    rw [hx.inv_bool, hy.inv_bool]
    rcases atomTy_spec ht with ⟨h1, _⟩ | ⟨_, hu⟩
    · cases h1
    · simp only [Option.some.injEq] at h
      simp [Op.equalIn, run_underlying hu, h]
  · rename_i k n k' m
    rw [hx.inv_int, hy.inv_int]
    rcases atomTy_spec ht with ⟨_, q, hu⟩ | ⟨h1, _⟩
    · by_cases hk : k = k'
      · simp only [hk, if_true, Option.some.injEq] at h
        subst h
        simp [Op.equalIn, run_underlying hu, hk, BEq.beq]
      · simp [hk] at h
    · cases h1
  · cases h

theorem run_part_atom {t : TypeId} {ys : List Value} {i : Nat} {y : Value} (h : aggIs P t false = true) (hy : ys[i]? = some y) : (part t ⟨ys⟩ i).run P w = .ok y w := by
  simp [part, run_isAgg h, hy]

/-- What a row's parts come to, field by field. -/
theorem atomsEq_cons {l : Bool} {ls : List Bool} {x y : Value} {xs ys : List Value} {r : Bool} (h : atomsEq (l :: ls) (x :: xs) (y :: ys) = some r) :
    ∃ a b, atomEq l x y = some a ∧ atomsEq ls xs ys = some b ∧ r = (a && b) := by
  simp only [atomsEq] at h
  split at h
  · rename_i a b h1 h2
    simp only [Option.some.injEq] at h
    exact ⟨a, b, h1, h2, h.symm⟩
  · cases h

theorem run_equal_struct {t : TypeId} {fs : Array Field} {l : List Bool} {xs ys : List Value} {x' y' : Value} {r : Bool} (d : Nat) (hu : P.underlying t = some (.struct fs))
    (hf : flatFields P fs.toList 0 l = true) (hs : P.stoodInHeld t = false) (h : atomsEq l xs ys = some r) (hx : V φ (.agg ⟨xs⟩) x') (hy : V φ (.agg ⟨ys⟩) y') :
    (Op.equalIn (d + 2) t x' y').run P w = .ok r w := by
  obtain ⟨xs', rfl, hxl⟩ := hx.inv_agg
  obtain ⟨ys', rfl, hyl⟩ := hy.inv_agg
  rw [show d + 2 = (d + 1) + 1 from rfl, Op.equalIn]
  simp only [Sem.run_bind, run_underlying hu, Result.andThen_ok]
  have hp : (program).run P w = .ok P w := rfl
  simp only [hp, Result.andThen_ok, hs, Bool.false_eq_true, if_false, Sem.run_bind, Sem.run_pure]
  rw [← Array.forIn_toList]
  have key : ∀ (L : List Field) (i : Nat) (l : List Bool) (r : Bool), flatFields P L i l = true → atomsEq l (xs.drop i) (ys.drop i) = some r →
      (forIn (m := Sem) L (none, ()) fun f (__s : Option Bool × Unit) =>
            if f.name ≠ "_" then do
              let __do_lift ← part f.type { toList := xs' } f.offset
              let __do_lift_1 ← part f.type { toList := ys' } f.offset
              let __do_lift ← Op.equalIn (d + 1) f.type __do_lift __do_lift_1
              if (!__do_lift) = true then pure (ForInStep.done (some false, ())) else pure (ForInStep.yield (none, ()))
            else pure (ForInStep.yield (none, ()))).run P w = .ok (bif r then (none, ()) else (some false, ())) w := by
    intro L
    induction L with
    | nil =>
      intro i l r h1 h2
      cases l with
      | cons _ _ => simp [flatFields] at h1
      | nil =>
        have hr : r = true := by
          unfold atomsEq at h2
          split at h2
          · simpa using h2.symm
          · rename_i h _ _; cases h
          · cases h2
        subst hr
        simp
    | cons f L ih =>
      intro i l r h1 h2
      cases l with
      | nil => simp [flatFields] at h1
      | cons b l =>
        simp only [flatFields, Bool.and_eq_true] at h1
        obtain ⟨⟨⟨⟨h11, h12⟩, h13⟩, h14⟩, h15⟩ := h1
        have ho := Nat.eq_of_beq_eq_true h11
        cases hxi : xs.drop i with
        | nil => rw [hxi] at h2; simp [atomsEq] at h2
        | cons x xr =>
          cases hyi : ys.drop i with
          | nil => rw [hxi, hyi] at h2; simp [atomsEq] at h2
          | cons y yr =>
            rw [hxi, hyi] at h2
            obtain ⟨a, c, e1, e2, rfl⟩ := atomsEq_cons h2
            have gx : xs[i]? = some x := by
              have : (xs.drop i)[0]? = some x := by rw [hxi]; rfl
              simpa using this
            have gy : ys[i]? = some y := by
              have : (ys.drop i)[0]? = some y := by rw [hyi]; rfl
              simpa using this
            have dx : xs.drop (i + 1) = xr := by
              have : (xs.drop i).drop 1 = xr := by rw [hxi]; rfl
              rw [List.drop_drop] at this; exact this
            have dy : ys.drop (i + 1) = yr := by
              have : (ys.drop i).drop 1 = yr := by rw [hyi]; rfl
              rw [List.drop_drop] at this; exact this
            obtain ⟨u, hu1, hu2⟩ := hxl.get gx
            obtain ⟨v, hv1, hv2⟩ := hyl.get gy
            have hn : f.name ≠ "_" := by simpa using h14
            have r1 := run_part_atom (w := w) h13 (ho ▸ hu1)
            have r2 := run_part_atom (w := w) h13 (ho ▸ hv1)
            have r3 := run_equal_atom (w := w) d h12 e1 hu2 hv2
            have r4 := ih (i + 1) l c h15 (by rw [dx, dy]; exact e2)
            simp only [List.forIn_cons, Sem.run_bind, hn, ne_eq, not_false_eq_true, if_true, Result.andThen_ok, r1, r2, r3]
            cases a with
            | true =>
              simp only [Bool.not_true, Bool.false_eq_true, if_false, Sem.run_pure, Result.andThen_ok, Bool.true_and]
              exact r4
            | false =>
              simp only [Bool.not_false, if_true, Sem.run_pure, Result.andThen_ok, Bool.false_and, cond_false]
  rw [key fs.toList 0 l r hf (by simpa using h)]
  cases r <;> simp

theorem run_equal_array {t e : TypeId} {n : Nat} {l : List Bool} {xs ys : List Value} {x' y' : Value} {r : Bool} (d : Nat) (hu : P.underlying t = some (.array n e))
    (hl : l.length = n) (hf : ∀ b ∈ l, atomTy P e b = true) (hz : sizeIs P e 1 = true) (ha : aggIs P e false = true)
    (h : atomsEq l xs ys = some r) (hx : V φ (.agg ⟨xs⟩) x') (hy : V φ (.agg ⟨ys⟩) y') :
    (Op.equalIn (d + 2) t x' y').run P w = .ok r w := by
  obtain ⟨xs', rfl, hxl⟩ := hx.inv_agg
  obtain ⟨ys', rfl, hyl⟩ := hy.inv_agg
  rw [show d + 2 = (d + 1) + 1 from rfl, Op.equalIn]
  simp only [Sem.run_bind, run_underlying hu, Result.andThen_ok, run_sizeOf hz, Nat.mul_one]
  simp only [Std.Legacy.Range.forIn_eq_forIn_range', Std.Legacy.Range.size, Nat.sub_zero, Nat.add_one_sub_one, Nat.div_one]
  have key : ∀ (l : List Bool) (i : Nat) (r : Bool), (∀ b ∈ l, atomTy P e b = true) → atomsEq l (xs.drop i) (ys.drop i) = some r →
      (forIn (m := Sem) (List.range' i l.length) (none, ()) fun i (__s : Option Bool × Unit) => do
              let __do_lift ← part e { toList := xs' } i
              let __do_lift_1 ← part e { toList := ys' } i
              let __do_lift ← Op.equalIn (d + 1) e __do_lift __do_lift_1
              if (!__do_lift) = true then pure (ForInStep.done (some false, ())) else pure (ForInStep.yield (none, ()))).run P w = .ok (bif r then (none, ()) else (some false, ())) w := by
    intro l
    induction l with
    | nil =>
      intro i r _ h2
      have hr : r = true := by
        unfold atomsEq at h2
        split at h2
        · simpa using h2.symm
        · rename_i h _ _; cases h
        · cases h2
      subst hr
      simp
    | cons b l ih =>
      intro i r h1 h2
      cases hxi : xs.drop i with
      | nil => rw [hxi] at h2; simp [atomsEq] at h2
      | cons x xr =>
        cases hyi : ys.drop i with
        | nil => rw [hxi, hyi] at h2; simp [atomsEq] at h2
        | cons y yr =>
          rw [hxi, hyi] at h2
          obtain ⟨a, c, e1, e2, rfl⟩ := atomsEq_cons h2
          have gx : xs[i]? = some x := by
            have : (xs.drop i)[0]? = some x := by rw [hxi]; rfl
            simpa using this
          have gy : ys[i]? = some y := by
            have : (ys.drop i)[0]? = some y := by rw [hyi]; rfl
            simpa using this
          have dx : xs.drop (i + 1) = xr := by
            have : (xs.drop i).drop 1 = xr := by rw [hxi]; rfl
            rw [List.drop_drop] at this; exact this
          have dy : ys.drop (i + 1) = yr := by
            have : (ys.drop i).drop 1 = yr := by rw [hyi]; rfl
            rw [List.drop_drop] at this; exact this
          obtain ⟨u, hu1, hu2⟩ := hxl.get gx
          obtain ⟨v, hv1, hv2⟩ := hyl.get gy
          have r1 := run_part_atom (w := w) ha hu1
          have r2 := run_part_atom (w := w) ha hv1
          have r3 := run_equal_atom (w := w) d (h1 b (by simp)) e1 hu2 hv2
          have r4 := ih (i + 1) c (fun q hq => h1 q (by simp [hq])) (by rw [dx, dy]; exact e2)
          simp only [List.length_cons, List.range'_succ, List.forIn_cons, Sem.run_bind, Result.andThen_ok, r1, r2, r3]
          cases a with
          | true =>
            simp only [Bool.not_true, Bool.false_eq_true, if_false, Sem.run_pure, Result.andThen_ok, Bool.true_and]
            exact r4
          | false =>
            simp only [Bool.not_false, if_true, Sem.run_pure, Result.andThen_ok, Bool.false_and, cond_false]
  have hk := key l 0 r hf (by simpa using h)
  rw [hl] at hk
  rw [hk]
  cases r <;> simp

inductive EqSpec (P : Program) (t : TypeId) : EqT → Prop
  | bool : P.underlying t = some .bool → EqSpec P t .bool
  | int (k : IntKind) : P.underlying t = some (.int k) → EqSpec P t .int
  | str : P.underlying t = some .string → EqSpec P t .str
  | ptr (e : TypeId) : P.underlying t = some (.pointer e) → EqSpec P t .ptr
  | struct (fs : Array Field) (l : List Bool) : P.underlying t = some (.struct fs) → flatFields P fs.toList 0 l = true → P.stoodInHeld t = false →
      P.eqGuardType P.depth t = false → EqSpec P t (.agg l)
  | array (n : Nat) (e : TypeId) (l : List Bool) : P.underlying t = some (.array n e) → l.length = n → (∀ b ∈ l, atomTy P e b = true) → sizeIs P e 1 = true →
      aggIs P e false = true → P.eqGuardType P.depth t = false → EqSpec P t (.agg l)

theorem eqC_spec {t : TypeId} {e : EqT} (hc : eqC P t e = true) : EqSpec P t e := by
  unfold eqC at hc
  split at hc
  · rename_i hu; exact .bool hu
  · rename_i hu; exact .int _ hu
  · rename_i hu; exact .str hu
  · rename_i hu; exact .ptr _ hu
  · rename_i hu
    simp only [Bool.and_eq_true, Bool.not_eq_true'] at hc
    exact .struct _ _ hu hc.1.1 hc.1.2 hc.2
  · rename_i hu
    simp only [Bool.and_eq_true, Bool.not_eq_true', List.all_eq_true] at hc
    exact .array _ _ _ hu (Nat.eq_of_beq_eq_true hc.1.1.1.1) hc.1.1.1.2 hc.1.1.2 hc.1.2 hc.2
  · cases hc

/-- What two values that are held against each other are. -/
inductive EqIs (φ : Emb) : EqT → Value → Value → Value → Value → Bool → Prop
  | int (k : IntKind) (n m : Int) : EqIs φ .int (.int k n) (.int k m) (.int k n) (.int k m) (decide (n = m))
  | bool (a b : Bool) : EqIs φ .bool (.bool a) (.bool b) (.bool a) (.bool b) (a == b)
  | str (a b : ByteArray) : EqIs φ .str (.string a) (.string b) (.string a) (.string b) (a == b)
  | ptrN {y : Value} (b : Option Addr) (b' : Option Addr) : b.isNone = b'.isNone → EqIs φ .ptr (.pointer none) y (.pointer none) (.pointer b') b.isNone
  | ptrS {x : Value} (a : Addr) : EqIs φ .ptr x (.pointer none) (.pointer (some a)) (.pointer none) false
  | agg (l : List Bool) {xs ys xs' ys' : List Value} {r : Bool} : atomsEq l xs ys = some r → V φ (.agg ⟨xs⟩) (.agg ⟨xs'⟩) → V φ (.agg ⟨ys⟩) (.agg ⟨ys'⟩) →
      EqIs φ (.agg l) (.agg ⟨xs⟩) (.agg ⟨ys⟩) (.agg ⟨xs'⟩) (.agg ⟨ys'⟩) r

theorem flatEq_is {e : EqT} {x y x' y' : Value} {r : Bool} (h : flatEq e x y = some r) (hx : V φ x x') (hy : V φ y y') : EqIs φ e x y x' y' r := by
  cases e with
  | int =>
    simp only [flatEq] at h
    cases x <;> cases y <;> simp only [atomEq] at h <;> try (cases h; done)
    rename_i k n k' m
    by_cases hk : k = k'
    · subst hk
      simp only [if_true, Option.some.injEq] at h
      subst h
      rw [hx.inv_int, hy.inv_int]
      exact .int k n m
    · simp [hk] at h
  | bool =>
    simp only [flatEq] at h
    cases x <;> cases y <;> simp only [atomEq] at h <;> try (cases h; done)
    simp only [Option.some.injEq] at h
    subst h
    rw [hx.inv_bool, hy.inv_bool]
    exact .bool _ _
  | str =>
    simp only [flatEq] at h
    cases x <;> cases y <;> simp only at h <;> try (cases h; done)
    simp only [Option.some.injEq] at h
    subst h
    rw [hx.inv_str, hy.inv_str]
    exact .str _ _
  | ptr =>
    simp only [flatEq] at h
    split at h
    · rename_i b
      simp only [Option.some.injEq] at h
      subst h
      rw [hx.inv_nptr]
      cases b with
      | none => rw [hy.inv_nptr]; exact .ptrN none none rfl
      | some b =>
        obtain ⟨i, o, b, δ, sz, rfl, e1, rfl⟩ := hy.inv_ptr
        exact .ptrN (some _) (some _) rfl
    · simp only [Option.some.injEq] at h
      subst h
      rw [hy.inv_nptr]
      obtain ⟨i, o, b, δ, sz, rfl, e1, rfl⟩ := hx.inv_ptr
      exact .ptrS _
    · cases h
  | agg l =>
    simp only [flatEq] at h
    split at h
    · obtain ⟨xs', rfl, _⟩ := hx.inv_agg
      obtain ⟨ys', rfl, _⟩ := hy.inv_agg
      exact .agg l h hx hy
    · cases h

/-- **Equality, as the evaluator reckons it.** -/
theorem run_equal_flat {t : TypeId} {e : EqT} {x y x' y' : Value} {r : Bool} (hc : EqSpec P t e) (h : EqIs φ e x y x' y' r) : (Op.equal t x' y').run P w = .ok r w := by
  unfold Op.equal
  obtain ⟨d, hd⟩ : ∃ d, Op.maxDepth = d + 2 := ⟨9998, rfl⟩
  rw [hd]
  cases h with
  | int k n m =>
    cases hc with
    | int q hu => exact run_equal_atom (φ := φ) (b := true) (x := .int k n) (y := .int k m) (d + 1) (by simp [atomTy, hu]) (by simp [atomEq]) (.int k n) (.int k m)
  | bool a b =>
    cases hc with
    | bool hu => exact run_equal_atom (φ := φ) (b := false) (x := .bool a) (y := .bool b) (d + 1) (by simp [atomTy, hu]) (by simp [atomEq]) (.bool a) (.bool b)
  | str a b =>
    cases hc with
    | str hu => simp [Op.equalIn, run_underlying hu]
  | ptrN b b' hb =>
    cases hc with
    | ptr e hu => simp [Op.equalIn, run_underlying hu, hb]
  | ptrS a =>
    cases hc with
    | ptr e hu => simp [Op.equalIn, run_underlying hu]
  | agg l h hx hy =>
    cases hc with
    | struct fs _ hu hf hs _ => exact run_equal_struct d hu hf hs h hx hy
    | array n e _ hu hl hf hz ha _ => exact run_equal_array d hu hl hf hz ha h hx hy

theorem run_binOp_by {t : TypeId} {neg : Bool} {x y : Value} {r : Bool} (h1 : binOp .eql t x y = (do pure (.bool (← Op.equal t x y))))
    (h2 : binOp .neq t x y = (do pure (.bool (!(← Op.equal t x y))))) (h : (Op.equal t x y).run P w = .ok r w) :
    (binOp (bif neg then .neq else .eql) t x y).run P w = .ok (.bool (bif neg then !r else r)) w := by
  cases neg
  · simp only [cond_false, h1, Sem.run_bind, h, Result.andThen_ok, Sem.run_pure]
  · simp only [cond_true, h2, Sem.run_bind, h, Result.andThen_ok, Sem.run_pure]

theorem sim_eq {t : TypeId} {e : EqT} {neg : Bool} {p q : Operand} {x y x' y' v : Value} (hc : EqSpec P t e) (h : opEq neg e x y = some v) (hx : V φ x x') (hy : V φ y y') :
    (do eqGuard (bif neg then .neq else .eql) t p q x' y'; binOp (bif neg then .neq else .eql) t x' y').run P w = .ok v w ∧ V φ v v := by
  obtain ⟨r, hr, rfl⟩ := Option.map_eq_some_iff.1 h
  have hi := flatEq_is hr hx hy
  have h2 := run_equal_flat (w := w) hc hi
  refine ⟨?_, .bool _⟩
  cases hi with
  | int k n m =>
    rw [Sem.run_bind, eqGuard_atoms (by simp) (by simp), Result.andThen_ok]
    cases neg <;> simp [binOp, Op.intCmp, BEq.beq, bne]
  | bool a b =>
    rw [Sem.run_bind, eqGuard_atoms (by simp) (by simp), Result.andThen_ok]
    exact run_binOp_by rfl rfl h2
  | str a b =>
    rw [Sem.run_bind, eqGuard_atoms (by simp) (by simp), Result.andThen_ok]
    have e1 : binOp .eql t (.string a) (.string b) = pure (.bool (a.toList == b.toList)) := rfl
    have e2 : binOp .neq t (.string a) (.string b) = pure (.bool (!(a.toList == b.toList))) := rfl
    have : (a.toList == b.toList) = (a == b) := by
      rw [ByteArray.toList_eq, ByteArray.toList_eq]
      show _ = (a.data == b.data)
      cases hab : (a.data == b.data) with
      | true => have := eq_of_beq hab; rw [this]; simp
      | false =>
        cases hl : (a.data.toList == b.data.toList) with
        | false => rfl
        | true => have := eq_of_beq hl; have := Array.toList_inj.1 this; rw [this] at hab; simp at hab
    cases neg
    · simp only [cond_false, e1, this, Sem.run_pure]
    · simp only [cond_true, e2, this, Sem.run_pure]
  | ptrN b b' hb =>
    rw [Sem.run_bind, eqGuard_atoms (by simp) (by simp), Result.andThen_ok]
    exact run_binOp_by rfl rfl h2
  | ptrS a =>
    rw [Sem.run_bind, eqGuard_atoms (by simp) (by simp), Result.andThen_ok]
    exact run_binOp_by rfl rfl h2
  | agg l h3 hx3 hy3 =>
    have hg : P.eqGuardType P.depth t = false := by
      cases hc with
      | struct _ _ _ _ _ hg => exact hg
      | array _ _ _ _ _ _ _ _ hg => exact hg
    have hp : (program).run P w = .ok P w := rfl
    have he : ∀ (op : BinOp) (u v : Array Value), (eqGuard op t p q (.agg u) (.agg v)).run P w = .ok () w := fun op u v => by
      cases op <;> first | rfl | simp [eqGuard, hp, hg]
    rw [Sem.run_bind, he, Result.andThen_ok]
    exact run_binOp_by rfl rfl h2

end
end Go.Ev

namespace Go.Ev

section
variable {P : Program} {φ : Emb} {H : Get} {w : World} {B0 : Nat} {F : Fr} {ρ : Operand → Value}

theorem sliceArr_V {i o b δ sz n z l h : Nat} (e : φ.blk i = some (b, δ, sz)) (hz : 0 < z) (hs : δ + o + n * z ≤ sz) (hl : l ≤ h) (hh : h ≤ n) :
    V φ (.slice (some ⟨i, o + l * z, none⟩) (h - l) z) (.slice (some (if n = l then ⟨b, δ + o, none⟩ else ⟨b, δ + o + l * z, none⟩)) (h - l) (n - l)) := by
  have := slice_V (φ := φ) e (Nat.le_refl n) hs hz (.inl rfl) hl hh
  split at this <;> rename_i hc
  · rw [if_pos hc]; exact this
  · rw [if_neg hc]; exact this

/-- What a map holds. -/
theorem mapOf_run {m m' : Value} {es : List (Value × Value)} (r : Rel P B0 φ H w) (h : mapOf H m = some es) (hm : V φ m m') :
    (m' = .map none ∧ es = []) ∨ ∃ b ces clk, m' = .map (some b) ∧ w.heap[b]? = some (.map ces clk) ∧ EntsR φ es ces.toList := by
  unfold mapOf at h
  split at h
  · cases hm with
    | nmap => simp only [Option.some.injEq] at h; exact .inl ⟨rfl, h.symm⟩
  · cases hm with
    | map e =>
      rename_i i b δ sz
      split at h
      · rename_i es' hes
        simp only [Option.some.injEq] at h
        subst h
        have ho := r.obj _ _ _ _ e
        rw [hes] at ho
        obtain ⟨ces, clk, h1, h2⟩ := ho
        exact .inr ⟨b, ces, clk, rfl, h1, h2⟩
      · cases h
  · cases h

theorem EntsR.length {es : List (Value × Value)} {ces : List MapEntry} (h : EntsR φ es ces) : es.length = ces.length := by
  induction h with
  | nil => rfl
  | cons _ _ ih => simp [ih]

theorem run_getObj {b : Nat} {o : Obj} (h : w.heap[b]? = some o) (hc : ∀ c e f, o ≠ .cells c e f) : (getObj b).run P w = .ok o w := by
  cases o <;> first | exact absurd rfl (hc _ _ _) | simp [getObj, Sem.run, h]

theorem sim_lenMap {t tt : TypeId} {m m' v : Value} (r : Rel P B0 φ H w) (ht : ∃ k e, P.underlying t = some (.map k e)) (h : opLenMap H m = some v) (hm : V φ m m') :
    (Builtin.len_ #[t] tt #[m']).run P w = .ok v w ∧ V φ v v := by
  obtain ⟨k, e, hu⟩ := ht
  obtain ⟨es, h1, rfl⟩ := Option.map_eq_some_iff.1 h
  refine ⟨?_, .int _ _⟩
  rcases mapOf_run r h1 hm with ⟨rfl, rfl⟩ | ⟨b, ces, clk, rfl, h2, h3⟩
  · simp [Builtin.len_, run_underlying hu, goInt]
  · have hl := h3.length
    simp [Builtin.len_, run_underlying hu, goInt, run_getObj h2, hl]

theorem sim_sliceArr {t e : TypeId} {m z : Nat} {x u v : Value} {lo hi lo' hi' : Option Value} (r : Rel P B0 φ H w) (ht : arrayOf P t = some (m, e)) (hz : sizeIs P e z = true) (hz0 : 0 < z)
    (h : opSliceArr H m z x lo hi = some v) (hx : V φ x u)
    (v1 : ∀ x, hi = some x → ∃ y, hi' = some y ∧ V φ x y) (n1 : hi = none → hi' = none) (v2 : ∀ x, lo = some x → ∃ y, lo' = some y ∧ V φ x y) (n2 : lo = none → lo' = none) :
    ∃ v', (Instr.sliceAt t u lo' hi' none).run P w = .ok v' w ∧ V φ v v' := by
  have hu := arrayOf_some ht
  unfold opSliceArr at h
  split at h
  · obtain ⟨cs, hl, h⟩ := Option.bind_eq_some_iff.1 h
    obtain ⟨hb, e1, h⟩ := Option.bind_eq_some_iff.1 h
    obtain ⟨lb, e2, h⟩ := Option.bind_eq_some_iff.1 h
    simp only [Option.some.injEq] at h
    subst h
    obtain ⟨i, o, b, δ, sz, rfl, he, rfl⟩ := hx.inv_ptr
    obtain ⟨b', o', cc, el, fz, h1, h2, h3, _⟩ := loadV_some r hl hx
    cases h1
    have ho := r.obj _ _ _ _ he
    unfold loadV at hl
    have hsz : cc.size = sz := by
      simp only at hl
      split at hl
      · rename_i ro c hc
        rw [hc] at ho
        obtain ⟨cc', el', fz', a1, a2, _⟩ := ho
        rw [h2] at a1
        cases a1
        exact a2
      · cases hl
    obtain ⟨r1, r2, r3⟩ := run_sliceBounds (P := P) (w := w) (b := false) (Nat.le_refl m) e1 e2 v1 n1 v2 n2
    refine ⟨_, ?_, sliceArr_V he hz0 (by rw [← hsz]; exact h3) r2 r3⟩
    simp only [Instr.sliceAt, Sem.run_bind, run_underlying hu, Result.andThen_ok, Instr.sureAddr, Sem.run_pure, r1, run_sizeOf hz, addr_add]
  · cases h

/-! ### Keys -/
theorem run_checkKey {t : TypeId} {e : EqT} {k k' : Value} {em : Bool} (hc : EqSpec P t e) (hk : keyOk e k = true) (hv : V φ k k') : (Instr.checkKey em 10000 t k').run P w = .ok () w := by
  have hf : flatEq e k k = some true := by
    unfold keyOk at hk
    split at hk
    · cases hk
    · split at hk
      · rename_i h; exact h
      · cases hk
  have hi := flatEq_is hf hv hv
  generalize true = rr at hi
  obtain ⟨d, hd⟩ : ∃ d, (10000 : Nat) = d + 2 := ⟨9998, rfl⟩
  rw [hd]
  cases hc with
  | bool hu => cases hi; simp [Instr.checkKey, run_underlying hu]
  | int q hu => cases hi; simp [Instr.checkKey, run_underlying hu]
  | str hu => cases hi; simp [Instr.checkKey, run_underlying hu]
  | ptr q hu => simp [keyOk] at hk
  | struct fs l hu hff hs _ =>
    cases k <;> simp only [flatEq] at hf <;> try (cases hf; done)
    case agg arr =>
      obtain ⟨xs⟩ := arr
      obtain ⟨xs', rfl, hxl⟩ := hv.inv_agg
      have h3 : atomsEq l xs xs = some true := hf
      rw [show d + 2 = (d + 1) + 1 from rfl, Instr.checkKey]
      simp only [Sem.run_bind, run_underlying hu, Result.andThen_ok]
      rw [← Array.forIn_toList]
      have key : ∀ (L : List Field) (i : Nat) (l : List Bool) (r : Bool), flatFields P L i l = true → atomsEq l (xs.drop i) (xs.drop i) = some r →
          (forIn (m := Sem) L PUnit.unit fun f (_ : PUnit) =>
            if f.name ≠ "_" then do
              let __do_lift ← part f.type { toList := xs' } f.offset
              Instr.checkKey em (d + 1) f.type __do_lift
              pure (ForInStep.yield PUnit.unit)
            else pure (ForInStep.yield PUnit.unit)).run P w = .ok PUnit.unit w := by
        intro L
        induction L with
        | nil => intro i l r _ _; simp
        | cons f L ih =>
          intro i l r h1 h2
          cases l with
          | nil => simp [flatFields] at h1
          | cons b l =>
            simp only [flatFields, Bool.and_eq_true] at h1
            obtain ⟨⟨⟨⟨h11, h12⟩, h13⟩, h14⟩, h15⟩ := h1
            have ho := Nat.eq_of_beq_eq_true h11
            cases hxi : xs.drop i with
            | nil => rw [hxi] at h2; simp [atomsEq] at h2
            | cons x xr =>
                rw [hxi] at h2
                obtain ⟨a, c, e1, e2, rfl⟩ := atomsEq_cons h2
                have gx : xs[i]? = some x := by
                  have : (xs.drop i)[0]? = some x := by rw [hxi]; rfl
                  simpa using this
                have dx : xs.drop (i + 1) = xr := by
                  have : (xs.drop i).drop 1 = xr := by rw [hxi]; rfl
                  rw [List.drop_drop] at this; exact this
                obtain ⟨u, hu1, hu2⟩ := hxl.get gx
                have hn : f.name ≠ "_" := by simpa using h14
                have r1 := run_part_atom (w := w) h13 (ho ▸ hu1)
                have r2 : (Instr.checkKey em (d + 1) f.type u).run P w = .ok () w := by
                  rcases atomTy_spec h12 with ⟨_, q, hq⟩ | ⟨_, hq⟩ <;> simp [Instr.checkKey, run_underlying hq]
                have r4 := ih (i + 1) l c h15 (by rw [dx]; exact e2)
                simp only [List.forIn_cons, Sem.run_bind, hn, ne_eq, not_false_eq_true, if_true, Result.andThen_ok, r1, r2, Sem.run_pure]
                exact r4
      rw [key fs.toList 0 l true hff (by simpa using h3)]
      simp
  | array n q l hu hl hff hz ha _ =>
    cases k <;> simp only [flatEq] at hf <;> try (cases hf; done)
    case agg arr =>
      obtain ⟨xs⟩ := arr
      obtain ⟨xs', rfl, hxl⟩ := hv.inv_agg
      have h3 : atomsEq l xs xs = some true := hf
      rw [show d + 2 = (d + 1) + 1 from rfl, Instr.checkKey]
      simp only [Sem.run_bind, run_underlying hu, Result.andThen_ok, run_sizeOf hz, Nat.mul_one]
      simp only [Std.Legacy.Range.forIn_eq_forIn_range', Std.Legacy.Range.size, Nat.sub_zero, Nat.add_one_sub_one, Nat.div_one]
      have key : ∀ (l : List Bool) (i : Nat) (r : Bool), (∀ b ∈ l, atomTy P q b = true) → atomsEq l (xs.drop i) (xs.drop i) = some r →
          (forIn (m := Sem) (List.range' i l.length) PUnit.unit fun i (_ : PUnit) => do
              let __do_lift ← sizeOf q
              let __do_lift ← part q { toList := xs' } (i * __do_lift)
              Instr.checkKey em (d + 1) q __do_lift
              pure (ForInStep.yield PUnit.unit)).run P w = .ok PUnit.unit w := by
        intro l
        induction l with
        | nil => intro i r _ _; simp
        | cons b l ih =>
          intro i r h1 h2
          cases hxi : xs.drop i with
          | nil => rw [hxi] at h2; simp [atomsEq] at h2
          | cons x xr =>
              rw [hxi] at h2
              obtain ⟨a, c, e1, e2, rfl⟩ := atomsEq_cons h2
              have gx : xs[i]? = some x := by
                have : (xs.drop i)[0]? = some x := by rw [hxi]; rfl
                simpa using this
              have dx : xs.drop (i + 1) = xr := by
                have : (xs.drop i).drop 1 = xr := by rw [hxi]; rfl
                rw [List.drop_drop] at this; exact this
              obtain ⟨u, hu1, hu2⟩ := hxl.get gx
              have r1 := run_part_atom (w := w) ha hu1
              have r2 : (Instr.checkKey em (d + 1) q u).run P w = .ok () w := by
                rcases atomTy_spec (h1 b (by simp)) with ⟨_, q', hq⟩ | ⟨_, hq⟩ <;> simp [Instr.checkKey, run_underlying hq]
              have r4 := ih (i + 1) c (fun q hq => h1 q (by simp [hq])) (by rw [dx]; exact e2)
              simp only [List.length_cons, List.range'_succ, List.forIn_cons, Sem.run_bind, run_sizeOf hz, Nat.mul_one, Result.andThen_ok, r1, r2, Sem.run_pure]
              exact r4
      have hk2 := key l 0 true hff (by simpa using h3)
      rw [hl] at hk2
      rw [hk2]
      simp

/-! ### Looking up -/
theorem keyOk_flat {e : EqT} {k : Value} (hk : keyOk e k = true) : flatEq e k k = some true := by
  unfold keyOk at hk
  split at hk
  · cases hk
  · split at hk
    · rename_i h; exact h
    · cases hk

/-- Where the search stops. -/
def keyAt (e : EqT) (k : Value) : List (Value × Value) → Nat
  | [] => 0
  | (k', _) :: r => if flatEq e k k' = some true then 0 else keyAt e k r + 1

/-- What the model's search finds, from place i on. -/
theorem run_findAsking {t : TypeId} {e : EqT} {k k' : Value} (hc : EqSpec P t e) (hv : V φ k k') : ∀ {es : List (Value × Value)} {ces : List MapEntry} {r : Option Value} (i : Nat), EntsR φ es ces →
    findKey e k es = some r → (r = none ∧ (Instr.findAsking t k' ces i).run P w = .ok none w) ∨
      ∃ v j c, r = some v ∧ ces[j]? = some c ∧ V φ v c.val ∧ (Instr.findAsking t k' ces i).run P w = .ok (some (i + j, c.val)) w ∧ j = keyAt e k es
  | _, _, r, i, .nil, h => by
    simp only [findKey, Option.some.injEq] at h
    exact .inl ⟨h.symm, by simp [Instr.findAsking]⟩
  | (kk, vv) :: es, c :: ces, r, i, .cons he hes, h => by
    simp only [findKey] at h
    cases hf : flatEq e k kk with
    | none => rw [hf] at h; cases h
    | some b =>
      rw [hf] at h
      have hq := run_equal_flat (w := w) hc (flatEq_is hf hv he.1)
      cases b with
      | true =>
        simp only [Option.some.injEq] at h
        exact .inr ⟨vv, 0, c, h.symm, rfl, he.2, by simp [Instr.findAsking, hq], by simp [keyAt, hf]⟩
      | false =>
        rcases run_findAsking hc hv (i + 1) hes h with ⟨h1, h2⟩ | ⟨v, j, c', h1, h2, h3, h4, h5⟩
        · exact .inl ⟨h1, by simp [Instr.findAsking, hq, h2]⟩
        · exact .inr ⟨v, j + 1, c', h1, by simpa using h2, h3, by (simp [Instr.findAsking, hq, h4]; omega), by simp [keyAt, hf, h5]⟩

theorem sameNow_eq {t : TypeId} {d : TypeDesc} {e : EqT} {x y x' y' : Value} {r : Bool} (hd : P.underlying t = some d) (hc : EqSpec P t e) (h : EqIs φ e x y x' y' r) (hp : e ≠ .ptr) :
    Instr.sameNow d x' y' = some r ∨ (∃ l, e = .agg l) ∧ Instr.sameNow d x' y' = none := by
  cases h with
  | int k n m => cases hc with | int q hu => rw [hu] at hd; cases hd; left; simp [Instr.sameNow, BEq.beq]
  | bool a b => cases hc with | bool hu => rw [hu] at hd; cases hd; left; rfl
  | str a b => cases hc with | str hu => rw [hu] at hd; cases hd; left; rfl
  | ptrN b b' hb => exact absurd rfl hp
  | ptrS a => exact absurd rfl hp
  | agg l h hx hy =>
    right
    refine ⟨⟨l, rfl⟩, ?_⟩
    cases hc with
    | struct fs _ hu hf hs _ => rw [hu] at hd; cases hd; rfl
    | array n e _ hu hl hf hz ha _ => rw [hu] at hd; cases hd; rfl

/-- A search, now or by asking. -/
theorem run_findKey {t : TypeId} {e : EqT} {k k' : Value} (hc : EqSpec P t e) (hp : e ≠ .ptr) (hv : V φ k k') {es : List (Value × Value)} {ces : List MapEntry} {r : Option Value} (hes : EntsR φ es ces)
    (h : findKey e k es = some r) : (r = none ∧ (Instr.findKey t k' ces).run P w = .ok none w) ∨
      ∃ v j c, r = some v ∧ ces[j]? = some c ∧ V φ v c.val ∧ (Instr.findKey t k' ces).run P w = .ok (some (j, c.val)) w ∧ j = keyAt e k es := by
  obtain ⟨d, hd⟩ : ∃ d, P.underlying t = some d := by cases hc <;> exact ⟨_, by assumption⟩
  have now : ∀ {es : List (Value × Value)} {ces : List MapEntry} {r : Option Value} (i : Nat), EntsR φ es ces → findKey e k es = some r →
      (Instr.findNow d k' ces i = none) ∨ (r = none ∧ Instr.findNow d k' ces i = some none) ∨
      ∃ v j c, r = some v ∧ ces[j]? = some c ∧ V φ v c.val ∧ Instr.findNow d k' ces i = some (some (i + j, c.val)) ∧ j = keyAt e k es := by
    intro es ces r i he
    induction he generalizing r i with
    | nil => intro h; simp only [findKey, Option.some.injEq] at h; exact .inr (.inl ⟨h.symm, rfl⟩)
    | cons he hes ih =>
      rename_i x c xs cs
      intro h
      obtain ⟨kk, vv⟩ := x
      simp only [findKey] at h
      cases hf : flatEq e k kk with
      | none => rw [hf] at h; cases h
      | some b =>
        rw [hf] at h
        rcases sameNow_eq hd hc (flatEq_is hf hv he.1) hp with hs | ⟨_, hs⟩
        · cases b with
          | true =>
            simp only [Option.some.injEq] at h
            exact .inr (.inr ⟨vv, 0, c, h.symm, rfl, he.2, by simp [Instr.findNow, hs], by simp [keyAt, hf]⟩)
          | false =>
            rcases ih (i + 1) h with h1 | ⟨h1, h2⟩ | ⟨v, j, c', h1, h2, h3, h4, h5⟩
            · exact .inl (by simp [Instr.findNow, hs, h1])
            · exact .inr (.inl ⟨h1, by simp [Instr.findNow, hs, h2]⟩)
            · exact .inr (.inr ⟨v, j + 1, c', h1, by simpa using h2, h3, by (simp [Instr.findNow, hs, h4]; omega), by simp [keyAt, hf, h5]⟩)
        · exact .inl (by simp [Instr.findNow, hs])
  unfold Instr.findKey
  simp only [Sem.run_bind, run_underlying hd, Result.andThen_ok]
  rcases now 0 hes h with h1 | ⟨h1, h2⟩ | ⟨v, j, c, h1, h2, h3, h4, h5⟩
  · rw [h1]
    rcases run_findAsking (w := w) hc hv 0 hes h with ⟨h1, h2⟩ | ⟨v, j, c, h1, h2, h3, h4, h5⟩
    · exact .inl ⟨h1, h2⟩
    · exact .inr ⟨v, j, c, h1, h2, h3, by simpa using h4, h5⟩
  · rw [h2]; exact .inl ⟨h1, rfl⟩
  · rw [h4]; exact .inr ⟨v, j, c, h1, h2, h3, by simp, h5⟩

theorem run_zeroVal {t : TypeId} {z : Value} (h : zeroValIs P t z = true) : ∃ z', (zeroValue t).run P w = .ok z' w ∧ V φ z z' := by
  unfold zeroValIs at h
  cases hi : P.info? t with
  | none => simp only [hi] at h; cases h
  | some i =>
    cases hz : i.zero with
    | none => simp only [hi, hz] at h; cases h
    | some v =>
      simp only [hi, hz] at h
      exact ⟨v, by simp [zeroValue, typeInfo, program, Sem.run, hi, hz], constC_V h⟩

theorem sim_lookup {t kt et : TypeId} {e : EqT} {zero m k m' k' v : Value} {ok : Bool} (r : Rel P B0 φ H w) (ht : P.underlying t = some (.map kt et)) (hc : EqSpec P kt e) (hz : zeroValIs P et zero = true)
    (h : opLookup H e zero ok m k = some v) (hm : V φ m m') (hk : V φ k k') : ∃ v', (Instr.lookup t m' k' ok).run P w = .ok v' w ∧ V φ v v' := by
  unfold opLookup at h
  cases hko : keyOk e k <;> rw [hko] at h <;> simp only [cond_true, cond_false] at h
  · cases h
  have hp : e ≠ .ptr := by rintro rfl; simp [keyOk] at hko
  cases hes : mapOf H m with
  | none => rw [hes] at h; cases h
  | some es =>
    rw [hes] at h
    dsimp only at h
    obtain ⟨z', hz1, hz2⟩ := run_zeroVal (φ := φ) (w := w) hz
    cases hfk : findKey e k es with
    | none => rw [hfk] at h; cases h
    | some res =>
      rw [hfk] at h
      have fin : ∀ (ces : Array MapEntry), EntsR φ es ces.toList → (∃ x, (Instr.findKey kt k' ces.toList).run P w = .ok x w ∧
          ((res = none ∧ x = none) ∨ ∃ (u : Value) (j : Nat) (c : MapEntry), res = some u ∧ x = some (j, c.val) ∧ V φ u c.val)) := by
        intro ces hce
        rcases run_findKey (w := w) hc hp hk hce hfk with ⟨h1, h2⟩ | ⟨u, j, c, h1, h2, h3, h4, _⟩
        · exact ⟨_, h2, .inl ⟨h1, rfl⟩⟩
        · exact ⟨_, h4, .inr ⟨u, j, c, h1, rfl, h3⟩⟩
      have ck := fun em => run_checkKey (w := w) (em := em) hc hko hk
      rcases mapOf_run r hes hm with ⟨rfl, rfl⟩ | ⟨b, ces, clk, rfl, h2, h3⟩
      · obtain ⟨x, hx1, hx2⟩ := fin #[] .nil
        rcases hx2 with ⟨rfl, rfl⟩ | ⟨u, j, c, rfl, rfl, h5⟩
        · cases ok <;> simp only [cond_true, cond_false, Option.some.injEq] at h <;> subst h
          · exact ⟨z', by simp [Instr.lookup, run_underlying ht, ck, hx1, hz1], hz2⟩
          · exact ⟨.tuple #[z', .bool false], by simp [Instr.lookup, run_underlying ht, ck, hx1, hz1], .tuple' (.cons hz2 (.cons (.bool _) (.nil φ)))⟩
        · simp [findKey] at hfk
      · obtain ⟨x, hx1, hx2⟩ := fin ces h3
        have hg := run_getObj (P := P) h2 (by simp)
        rcases hx2 with ⟨rfl, rfl⟩ | ⟨u, j, c, rfl, rfl, h5⟩
        · cases ok <;> simp only [cond_true, cond_false, Option.some.injEq] at h <;> subst h
          · exact ⟨z', by simp [Instr.lookup, run_underlying ht, ck, hg, hx1, hz1], hz2⟩
          · exact ⟨.tuple #[z', .bool false], by simp [Instr.lookup, run_underlying ht, ck, hg, hx1, hz1], .tuple' (.cons hz2 (.cons (.bool _) (.nil φ)))⟩
        · cases ok <;> simp only [cond_true, cond_false, Option.some.injEq] at h <;> subst h
          · exact ⟨c.val, by simp [Instr.lookup, run_underlying ht, ck, hg, hx1], h5⟩
          · exact ⟨.tuple #[c.val, .bool true], by simp [Instr.lookup, run_underlying ht, ck, hg, hx1], .tuple' (.cons h5 (.cons (.bool _) (.nil φ)))⟩

end
end Go.Ev

namespace Go.Ev

section
variable {P : Program} {φ : Emb} {H : Get} {w : World} {B0 : Nat} {F : Fr} {ρ : Operand → Value}

theorem evOpt_V {x : Option Operand} {y : Option COpd} (hev : ∀ z, x = some z → ∀ q, opdC z q = true → V φ (q.ev F) (ρ z)) (h : opdO x y = true) :
    (∀ u, evOpt F y = some u → ∃ u', x.map ρ = some u' ∧ V φ u u') ∧ (evOpt F y = none → x.map ρ = none) := by
  cases x <;> cases y <;> simp only [opdO] at h <;> try (cases h; done)
  · exact ⟨fun u e => (by cases e), fun _ => rfl⟩
  · rename_i a b
    refine ⟨fun u e => ?_, fun e => by cases e⟩
    simp only [evOpt, Option.some.injEq] at e
    subst e
    exact ⟨_, rfl, hev a rfl b h⟩

theorem sim_p {o : Oper} {x : POp} {v : Value} (hc : pC P o.op x = true) (r : Rel P B0 φ H w) (hev : EvR φ F ρ o.op.operands.toList) (h : evP H F x = some v) :
    ∃ v', (execOp ρ o).run P w = .ok (.value v') w ∧ V φ v v' := by
  obtain ⟨dst, op, type, pos, after, guard⟩ := o
  dsimp only at hc hev
  unfold pC at hc
  split at hc
  case h_1 a b =>
    simp only [evP, Option.some.injEq] at h
    subst h
    exact ⟨ρ a, by simp [execOp], hev a (by simp [Op.operands]) b hc⟩
  case h_2 a b =>
    simp only [evP, Option.some.injEq] at h
    subst h
    exact ⟨ρ a, by simp [execOp], hev a (by simp [Op.operands]) b hc⟩
  case h_3 a b c a' b' c' =>
    simp only [Bool.and_eq_true] at hc
    have h1 := hev a (by simp [Op.operands]) a' hc.1.1
    have h2 := hev b (by simp [Op.operands]) b' hc.1.2
    have h3 := hev c (by simp [Op.operands]) c' hc.2
    simp only [evP, opPick] at h
    split at h
    · rename_i e; rw [e] at h1
      simp only [Option.some.injEq] at h; subst h
      exact ⟨ρ b, by simp [execOp, h1.inv_bool, asBool], h2⟩
    · rename_i e; rw [e] at h1
      simp only [Option.some.injEq] at h; subst h
      exact ⟨ρ c, by simp [execOp, h1.inv_bool, asBool], h3⟩
    · cases h
  case h_4 t ps zero qs =>
    have hev' : EvR φ F ρ (ps.toList.map (·.2)) := fun z hz => hev z (by simpa [Op.operands] using hz)
    obtain ⟨v', r1, r2⟩ := sim_build (P := P) (w := w) (t := t) (by unfold pC; exact hc) hev' h
    exact ⟨v', by simp [execOp, r1], r2⟩
  case h_5 t a b =>
    simp only [Bool.and_eq_true] at hc
    have h1 := hev a (by simp [Op.operands]) b hc.2
    simp only [evP, opLoad1] at h
    split at h
    · rename_i u e
      simp only [Option.some.injEq] at h; subst h
      obtain ⟨b, o, cc, el, fz, q1, q2, q3, q4⟩ := loadV_some r e h1
      have hcell := cell_of (w := w) q2 (show o < cc.size by omega)
      refine ⟨cc.getD o undf, ?_, ?_⟩
      · simp only [execOp, q1, Instr.loadAt, Instr.sureAddr, loadVar, Sem.run_bind, Sem.run_pure, run_isAgg hc.1, Result.andThen_ok, Bool.false_eq_true, if_false, run_load hcell]
      · have := q4.2 0 (by simp)
        simpa using this
    · cases h
  case h_6 t a n b =>
    simp only [Bool.and_eq_true] at hc
    have h1 := hev a (by simp [Op.operands]) b hc.2
    simp only [evP, opLoadN] at h
    obtain ⟨vs, e, rfl⟩ := Option.map_eq_some_iff.1 h
    obtain ⟨b, o, cc, el, fz, q1, q2, q3, q4⟩ := loadV_some r e h1
    refine ⟨_, ?_, .agg' q4⟩
    simp [execOp, q1, Instr.loadAt, Instr.sureAddr, loadVar, run_isAgg hc.1.1, run_sizeOf hc.1.2, run_loadCells q2 q3]
  case h_7 a b =>
    have h1 := hev a (by simp [Op.operands]) b hc
    obtain ⟨h2, h3⟩ := sim_nilCheck h h1
    refine ⟨ρ a, ?_, h2⟩
    rcases h3 with ⟨p, e⟩ | ⟨f, x, y, e⟩ | ⟨f, x, y, e⟩ <;> simp [execOp, e]
  case h_8 op' t a b t' op2 a' b' =>
    simp only [Bool.and_eq_true, decide_eq_true_eq] at hc
    obtain ⟨⟨rfl, ha⟩, hb⟩ := hc
    have h1 := hev a (by simp [Op.operands]) a' ha
    have h2 := hev b (by simp [Op.operands]) b' hb
    obtain ⟨r1, r2⟩ := sim_bin (P := P) (w := w) (t := t) (x := a) (y := b) h h1 h2
    refine ⟨v, ?_, r2⟩
    simp only [Sem.run_bind] at r1
    simp only [execOp, Sem.run_bind, r1, Result.andThen_ok, Sem.run_pure]
  case h_9 op' t a b t' neg e a' b' =>
    simp only [Bool.and_eq_true, decide_eq_true_eq] at hc
    obtain ⟨⟨⟨rfl, he⟩, ha⟩, hb⟩ := hc
    have h1 := hev a (by simp [Op.operands]) a' ha
    have h2 := hev b (by simp [Op.operands]) b' hb
    obtain ⟨r1, r2⟩ := sim_eq (P := P) (w := w) (p := a) (q := b) (eqC_spec he) h h1 h2
    refine ⟨v, ?_, r2⟩
    simp only [Sem.run_bind] at r1
    simp only [execOp, Sem.run_bind, r1, Result.andThen_ok, Sem.run_pure]
  case h_10 op' t a op2 a' =>
    simp only [Bool.and_eq_true, decide_eq_true_eq] at hc
    obtain ⟨rfl, ha⟩ := hc
    obtain ⟨r1, r2⟩ := sim_un (P := P) (w := w) h (hev a (by simp [Op.operands]) a' ha)
    exact ⟨v, by simp [execOp, r1], r2⟩
  case h_11 s d a k a' =>
    simp only [Bool.and_eq_true] at hc
    obtain ⟨hk, ha⟩ := hc
    have h1 := hev a (by simp [Op.operands]) a' ha
    simp only [evP, opConv] at h
    split at h
    · rename_i k0 n e
      rw [e] at h1
      simp only [Option.some.injEq, wrapQ_eq] at h
      subst h
      split at hk
      · rename_i u1 u2 hs hd
        simp only [decide_eq_true_eq] at hk
        subst hk
        exact ⟨_, by simp [execOp, h1.inv_int, convert, run_underlying hs, run_underlying hd, Conv.intToInt], .int _ _⟩
      · cases hk
    · cases h
  case h_12 f first cs f' cs' =>
    simp only [Bool.and_eq_true] at hc
    obtain ⟨⟨hf, hfi⟩, hcs⟩ := hc
    have hf' := Nat.eq_of_beq_eq_true hf
    subst hf'
    have hfirst : first = #[] := by simpa using hfi
    subst hfirst
    simp only [evP, Option.some.injEq] at h
    subst h
    have hl := evArgs_VL (xs := cs.toList) (fun z hz => hev z (by simpa [Op.operands] using hz)) hcs
    refine ⟨.func (.func f) #[] ⟨cs.toList.map ρ⟩, ?_, .fn hl.1 hl.2⟩
    have : cs.map ρ = ⟨cs.toList.map ρ⟩ := by rw [← Array.toList_inj]; simp
    simp [execOp, Instr.makeFunc, this]
  case h_13 t a lo hi z a' lo' hi' =>
    simp only [Bool.and_eq_true] at hc
    obtain ⟨⟨⟨hs, ha⟩, hlo⟩, hhi⟩ := hc
    split at hs
    · rename_i e hse
      have h1 := hev a (by simp [Op.operands]) a' ha
      obtain ⟨l1, l2⟩ := evOpt_V (φ := φ) (F := F) (ρ := ρ) (fun z hz => hev z (by subst hz; simp [Op.operands])) hlo
      obtain ⟨m1, m2⟩ := evOpt_V (φ := φ) (F := F) (ρ := ρ) (fun z hz => hev z (by subst hz; simp [Op.operands])) hhi
      obtain ⟨v', r1, r2⟩ := sim_slice (w := w) hse hs h h1 m1 m2 l1 l2
      exact ⟨v', by simp [execOp, r1], r2⟩
    · cases hs
  case h_14 t a lo hi n z a' lo' hi' =>
    simp only [Bool.and_eq_true] at hc
    obtain ⟨⟨⟨hs, ha⟩, hlo⟩, hhi⟩ := hc
    split at hs
    · rename_i m e hse
      simp only [Bool.and_eq_true] at hs
      obtain ⟨⟨hs1, hs2⟩, hs3⟩ := hs
      have hmn := Nat.eq_of_beq_eq_true hs1
      subst hmn
      have h1 := hev a (by simp [Op.operands]) a' ha
      obtain ⟨l1, l2⟩ := evOpt_V (φ := φ) (F := F) (ρ := ρ) (fun z hz => hev z (by subst hz; simp [Op.operands])) hlo
      obtain ⟨m1, m2⟩ := evOpt_V (φ := φ) (F := F) (ρ := ρ) (fun z hz => hev z (by subst hz; simp [Op.operands])) hhi
      obtain ⟨v', r1, r2⟩ := sim_sliceArr r hse hs2 (Nat.le_of_ble_eq_true hs3) h h1 m1 m2 l1 l2
      exact ⟨v', by simp [execOp, r1], r2⟩
    · cases hs
  case h_15 t a f off a' =>
    simp only [Bool.and_eq_true] at hc
    obtain ⟨hf, ha⟩ := hc
    have h1 := hev a (by simp [Op.operands]) a' ha
    split at hf
    · rename_i fs hfs
      split at hf
      · rename_i fd hfd
        simp only [Bool.and_eq_true] at hf
        obtain ⟨ho, hsz⟩ := hf
        have ho' := Nat.eq_of_beq_eq_true ho
        split at hsz
        · rename_i i hi
          have hpos : i.size ≠ 0 := by have := Nat.le_of_ble_eq_true hsz; omega
          obtain ⟨b, o, e, hv⟩ := sim_fieldAddr h h1
          refine ⟨_, ?_, hv⟩
          simp [execOp, e, Instr.fieldAt, run_underlying (fieldsOf_some hfs), hfd, Instr.sureAddr, fieldPlace, sizeOf, typeInfo, hi, hpos, addr_add, ho']
        · cases hsz
      · cases hf
    · cases hf
  case h_16 t a f off n agg a' =>
    simp only [Bool.and_eq_true] at hc
    obtain ⟨hf, ha⟩ := hc
    have h1 := hev a (by simp [Op.operands]) a' ha
    split at hf
    · rename_i fs hfs
      split at hf
      · rename_i fd hfd
        simp only [Bool.and_eq_true] at hf
        obtain ⟨⟨⟨ho, hsz⟩, hag⟩, hn⟩ := hf
        have hn' : agg = true ∨ n = 1 := by
          cases agg
          · simp only [Bool.false_or] at hn; exact .inr (Nat.eq_of_beq_eq_true hn)
          · exact .inl rfl
        obtain ⟨v', r1, r2⟩ := sim_field (w := w) hfs hfd (Nat.eq_of_beq_eq_true ho) hag hsz hn' h h1
        exact ⟨v', by simp [execOp, r1], r2⟩
      · cases hf
    · cases hf
  case h_17 t a i z a' i' =>
    simp only [Bool.and_eq_true] at hc
    obtain ⟨⟨hs, ha⟩, hi⟩ := hc
    split at hs
    · rename_i e hse
      obtain ⟨v', r1, r2⟩ := sim_indexAddr (w := w) hse hs h (hev a (by simp [Op.operands]) a' ha) (hev i (by simp [Op.operands]) i' hi)
      exact ⟨v', by simp [execOp, r1], r2⟩
    · cases hs
  case h_18 t a i n z a' i' =>
    simp only [Bool.and_eq_true] at hc
    obtain ⟨⟨hs, ha⟩, hi⟩ := hc
    split at hs
    · rename_i m e hse
      simp only [Bool.and_eq_true] at hs
      have hmn := Nat.eq_of_beq_eq_true hs.1
      subst hmn
      obtain ⟨v', r1, r2⟩ := sim_indexAddrA (w := w) hse hs.2 h (hev a (by simp [Op.operands]) a' ha) (hev i (by simp [Op.operands]) i' hi)
      exact ⟨v', by simp [execOp, r1], r2⟩
    · cases hs
  case h_19 t a i n z agg a' i' =>
    simp only [Bool.and_eq_true] at hc
    obtain ⟨⟨hs, ha⟩, hi⟩ := hc
    split at hs
    · rename_i m e hse
      simp only [Bool.and_eq_true] at hs
      obtain ⟨⟨⟨hs1, hs2⟩, hs3⟩, hs4⟩ := hs
      have hmn := Nat.eq_of_beq_eq_true hs1
      subst hmn
      have hn' : agg = true ∨ z = 1 := by
        cases agg
        · simp only [Bool.false_or] at hs4; exact .inr (Nat.eq_of_beq_eq_true hs4)
        · exact .inl rfl
      obtain ⟨v', r1, r2⟩ := sim_index (w := w) hse hs3 hs2 hn' h (hev a (by simp [Op.operands]) a' ha) (hev i (by simp [Op.operands]) i' hi)
      exact ⟨v', by simp [execOp, r1], r2⟩
    · cases hs
  case h_20 t a i a' i' =>
    simp only [Bool.and_eq_true] at hc
    obtain ⟨⟨hs, ha⟩, hi⟩ := hc
    split at hs
    · rename_i hu
      obtain ⟨r1, r2⟩ := sim_indexS (w := w) hu h (hev a (by simp [Op.operands]) a' ha) (hev i (by simp [Op.operands]) i' hi)
      exact ⟨v, by simp [execOp, r1], r2⟩
    · cases hs
  case h_21 t a k ok q zero ok' a' k' =>
    simp only [Bool.and_eq_true, decide_eq_true_eq] at hc
    obtain ⟨⟨⟨hs, rfl⟩, ha⟩, hk⟩ := hc
    split at hs
    · rename_i kt e hm
      simp only [Bool.and_eq_true] at hs
      obtain ⟨v', r1, r2⟩ := sim_lookup r (mapOfT_some hm) (eqC_spec hs.1) hs.2 h (hev a (by simp [Op.operands]) a' ha) (hev k (by simp [Op.operands]) k' hk)
      exact ⟨v', by simp [execOp, r1], r2⟩
    · cases hs
  case h_22 a i a' i' =>
    simp only [Bool.and_eq_true] at hc
    have hi := Nat.eq_of_beq_eq_true hc.2
    subst hi
    obtain ⟨v', r1, r2⟩ := sim_extract (P := P) (w := w) h (hev a (by simp [Op.operands]) a' hc.1)
    exact ⟨v', by simp [execOp, r1], r2⟩
  case h_23 args argTypes x0 =>
    split at hc
    · rename_i x t e1 e2
      simp only [Bool.and_eq_true] at hc
      obtain ⟨hs, hx⟩ := hc
      split at hs
      · rename_i e hse
        have a1 : args = #[x] := by rw [← Array.toList_inj]; simpa using e1
        have h1 := hev x (by simp [Op.operands, Call.operands, a1]) _ hx
        obtain ⟨r1, r2⟩ := sim_len (w := w) (tt := type) hse h h1
        refine ⟨v, ?_, r2⟩
        have a2 : argTypes = #[t] := by rw [← Array.toList_inj]; simpa using e2
        subst a1 a2
        simp [execOp, resolve, invoke, builtin, r1]
      · cases hs
    · cases hc
  case h_24 args argTypes x0 =>
    split at hc
    · rename_i x t e1 e2
      simp only [Bool.and_eq_true] at hc
      obtain ⟨hs, hx⟩ := hc
      split at hs
      · rename_i hse
        have a1 : args = #[x] := by rw [← Array.toList_inj]; simpa using e1
        have h1 := hev x (by simp [Op.operands, Call.operands, a1]) _ hx
        obtain ⟨r1, r2⟩ := sim_lenS (w := w) (tt := type) hse h h1
        refine ⟨v, ?_, r2⟩
        have a2 : argTypes = #[t] := by rw [← Array.toList_inj]; simpa using e2
        subst a1 a2
        simp [execOp, resolve, invoke, builtin, r1]
      · cases hs
    · cases hc
  case h_25 args argTypes x0 =>
    split at hc
    · rename_i x t e1 e2
      simp only [Bool.and_eq_true] at hc
      obtain ⟨hs, hx⟩ := hc
      split at hs
      · rename_i k e hse
        have a1 : args = #[x] := by rw [← Array.toList_inj]; simpa using e1
        have h1 := hev x (by simp [Op.operands, Call.operands, a1]) _ hx
        obtain ⟨r1, r2⟩ := sim_lenMap (tt := type) r ⟨_, _, hse⟩ h h1
        refine ⟨v, ?_, r2⟩
        have a2 : argTypes = #[t] := by rw [← Array.toList_inj]; simpa using e2
        subst a1 a2
        simp [execOp, resolve, invoke, builtin, r1]
      · cases hs
    · cases hc
  case h_26 args argTypes x0 =>
    split at hc
    · rename_i x t n e1 e2
      split at hc
      · rename_i m e hse
        simp only [decide_eq_true_eq] at hc
        subst hc
        simp only [evP, COpd.ev, Option.some.injEq] at h
        subst h
        refine ⟨_, ?_, .int _ _⟩
        have a1 : args = #[x] := by rw [← Array.toList_inj]; simpa using e1
        have a2 : argTypes = #[t] := by rw [← Array.toList_inj]; simpa using e2
        subst a1 a2
        simp [execOp, resolve, invoke, builtin, Builtin.len_, run_underlying hse, goInt]
      · cases hc
    · cases hc
  case h_27 args argTypes xs =>
    obtain ⟨r1, r2⟩ := sim_min (P := P) (w := w) (ts := argTypes) (t := type) h (evArgs_VL (xs := args.toList) (fun z hz => hev z (by simpa [Op.operands, Call.operands] using hz)) hc)
    refine ⟨v, ?_, r2⟩
    have : args.map ρ = ⟨args.toList.map ρ⟩ := by rw [← Array.toList_inj]; simp
    simp [execOp, resolve, invoke, builtin, this, r1]
  case h_28 args argTypes xs =>
    obtain ⟨r1, r2⟩ := sim_max (P := P) (w := w) (ts := argTypes) (t := type) h (evArgs_VL (xs := args.toList) (fun z hz => hev z (by simpa [Op.operands, Call.operands] using hz)) hc)
    refine ⟨v, ?_, r2⟩
    have : args.map ρ = ⟨args.toList.map ρ⟩ := by rw [← Array.toList_inj]; simp
    simp [execOp, resolve, invoke, builtin, this, r1]
  case h_29 => simp [evP] at h
  case h_30 => cases hc

end
end Go.Ev

