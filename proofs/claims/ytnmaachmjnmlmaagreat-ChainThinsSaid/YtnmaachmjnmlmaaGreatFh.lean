/-
  A region in any order: what the checks tell of it.

  A region in any order: what holds when some of its operations are done.

  A region in any order: an effect is done; what a reading operation finds.
-/
import Derived.Test.YtnmaachmjnmlmaaGreatFg
import Derived.Orders
set_option linter.unusedVariables false
set_option linter.unusedSimpArgs false
set_option linter.unusedSectionVars false
namespace Go.Ev

/-! ### Frames -/
def valD (D : Nat → Bool) (dst : Nat → Option Nat) (vs : Nat → Value) (F0 : Fr) : Nat → Fr
  | 0 => F0
  | n + 1 => bif D n then putO (valD D dst vs F0 n) (dst n) (vs n) else valD D dst vs F0 n

theorem putO_app (F : Fr) (d : Option Nat) (v : Value) (t : Nat) : putO F d v t = if d = some t then v else F t := by
  cases d with
  | none => simp [putO]
  | some i =>
    rw [putO, upd_app]
    by_cases h : t = i
    · subst h; simp
    · rw [if_neg h, if_neg (by simpa using fun e => h e.symm)]

theorem valD_same {D : Nat → Bool} {dst : Nat → Option Nat} {vs : Nat → Value} {F0 : Fr} {t x : Nat} : ∀ n, x ≤ n → (∀ j, x ≤ j → j < n → dst j = some t → D j = false) →
    valD D dst vs F0 n t = valD D dst vs F0 x t
  | 0, h, _ => by
    have : x = 0 := by omega
    subst this; rfl
  | n + 1, h, hd => by
    by_cases hx : x = n + 1
    · subst hx; rfl
    · rw [← valD_same n (by omega) (fun j h1 h2 => hd j h1 (by omega))]
      simp only [valD]
      cases hD : D n with
      | false => rfl
      | true =>
        simp only [cond_true, putO_app]
        rw [if_neg]
        intro h1
        rw [hd n (by omega) (by omega) h1] at hD
        cases hD

theorem valD_all {D : Nat → Bool} {dst : Nat → Option Nat} {vs : Nat → Value} {F0 : Fr} {t : Nat} : ∀ x, (∀ j, j < x → dst j = some t → D j = true) →
    valD D dst vs F0 x t = valD (fun _ => true) dst vs F0 x t
  | 0, _ => rfl
  | n + 1, hd => by
    simp only [valD, cond_true, putO_app]
    by_cases h : dst n = some t
    · rw [hd n (by omega) h]
      simp [putO_app, h]
    · rw [if_neg h]
      cases D n with
      | false => exact valD_all n (fun j hj => hd j (by omega))
      | true => simp only [cond_true, putO_app, if_neg h]; exact valD_all n (fun j hj => hd j (by omega))

def setD (D : Nat → Bool) (x : Nat) : Nat → Bool := fun i => Nat.beq i x || D i
theorem setD_same (D : Nat → Bool) (x : Nat) : setD D x x = true := by simp [setD]
theorem setD_ne (D : Nat → Bool) {x i : Nat} (h : i ≠ x) : setD D x i = D i := by
  have : Nat.beq i x = false := by
    cases hb : Nat.beq i x with
    | true => exact absurd (Nat.eq_of_beq_eq_true hb) h
    | false => rfl
  simp [setD, this]
theorem setD_or {D : Nat → Bool} {x i : Nat} (h : setD D x i = true) : i = x ∨ D i = true := by
  by_cases hx : i = x
  · exact .inl hx
  · rw [setD_ne D hx] at h; exact .inr h

theorem valD_set {D : Nat → Bool} {dst : Nat → Option Nat} {vs : Nat → Value} {F0 : Fr} {t x : Nat} (hx : D x = false) : ∀ n, (∀ j, x < j → j < n → D j = true → dst x = some t → dst j ≠ some t) →
    valD (setD D x) dst vs F0 n t = if x < n ∧ dst x = some t then vs x else valD D dst vs F0 n t
  | 0, _ => by simp [valD]
  | n + 1, hd => by
    have ih := valD_set (vs := vs) (F0 := F0) hx n (fun j h1 h2 => hd j h1 (by omega))
    simp only [valD]
    by_cases hn : n = x
    · subst hn
      rw [setD_same, hx]
      simp only [cond_true, cond_false, putO_app]
      by_cases h : dst n = some t
      · rw [if_pos h, if_pos ⟨by omega, h⟩]
      · rw [if_neg h, if_neg (fun e => h e.2), ih, if_neg (fun e => h e.2)]
    · rw [setD_ne D hn]
      cases hD : D n with
      | false =>
        simp only [cond_false, ih]
        by_cases h : x < n ∧ dst x = some t
        · rw [if_pos h, if_pos ⟨by omega, h.2⟩]
        · rw [if_neg h, if_neg (fun e => h ⟨by omega, e.2⟩)]
      | true =>
        simp only [cond_true, putO_app]
        by_cases h : dst n = some t
        · rw [if_pos h, if_pos h, if_neg]
          intro e
          exact hd n (by omega) (by omega) hD e.2 h
        · rw [if_neg h, if_neg h, ih]
          by_cases h' : x < n ∧ dst x = some t
          · rw [if_pos h', if_pos ⟨by omega, h'.2⟩]
          · rw [if_neg h', if_neg (fun e => h' ⟨by omega, e.2⟩)]

/-! ### Orders -/
def readyP (ops : Array Oper) (D : Nat → Bool) (i : Nat) : Prop := ∀ e ∈ (ops.getD i default).after.toList, Region.binds .any e = true → D e.on = true
def closedP (ops : Array Oper) (D : Nat → Bool) : Prop := ∀ i, D i = true → i < ops.size ∧ readyP ops D i

theorem edgeBits_test (acc : Array Nat) (j : Nat) : ∀ (l : List Edge), (edgeBits acc l).testBit j = true →
    ∃ e ∈ l, Region.binds .any e = true ∧ (e.on = j ∨ (acc.getD e.on 0).testBit j = true)
  | [], h => by simp [edgeBits] at h
  | e :: r, h => by
    simp only [edgeBits] at h
    cases hb : Region.binds .any e with
    | false =>
      rw [hb] at h
      obtain ⟨e', h1, h2⟩ := edgeBits_test acc j r h
      exact ⟨e', List.mem_cons_of_mem _ h1, h2⟩
    | true =>
      rw [hb] at h
      simp only [cond_true, Nat.testBit_or, Bool.or_eq_true] at h
      rcases h with (h | h) | h
      · rw [Nat.testBit_two_pow] at h
        exact ⟨e, List.mem_cons_self, hb, .inl (by simpa using h)⟩
      · exact ⟨e, List.mem_cons_self, hb, .inr h⟩
      · obtain ⟨e', h1, h2⟩ := edgeBits_test acc j r h
        exact ⟨e', List.mem_cons_of_mem _ h1, h2⟩

theorem aheadOf_spec (ops : Array Oper) : ∀ (l : List Oper) (acc : Array Nat), (∀ i, l[i]? = (ops.toList)[acc.size + i]?) →
    (∀ i, i < acc.size → ∀ j, (acc.getD i 0).testBit j = true → ∀ D, closedP ops D → readyP ops D i → D j = true) →
    ∀ i j, ((aheadOf l acc).getD i 0).testBit j = true → ∀ D, closedP ops D → readyP ops D i → D j = true
  | [], acc, hl, hacc => fun i j h D hD hr => by
    by_cases hi : i < acc.size
    · exact hacc i hi j h D hD hr
    · simp only [aheadOf, Array.getD_eq_getD_getElem?, Array.getElem?_eq_none (Nat.le_of_not_lt hi)] at h
      simp at h
  | o :: os, acc, hl, hacc => by
    refine aheadOf_spec ops os _ (fun i => ?_) (fun i hi j h D hD hr => ?_)
    · have := hl (i + 1)
      simp only [List.getElem?_cons_succ] at this
      rw [this, Array.size_push]
      congr 1
      omega
    · rw [Array.size_push] at hi
      by_cases he : i = acc.size
      · subst he
        have h0 := hl 0
        simp only [List.getElem?_cons_zero, Nat.add_zero, Array.getElem?_toList] at h0
        have ho : ops.getD acc.size default = o := by
          rw [Array.getD_eq_getD_getElem?, ← h0]; rfl
        have hg : (acc.push (edgeBits acc o.after.toList)).getD acc.size 0 = edgeBits acc o.after.toList := by
          simp [Array.getD_eq_getD_getElem?]
        rw [hg] at h
        obtain ⟨e, h1, h2, h3⟩ := edgeBits_test acc j _ h
        have hDe : D e.on = true := hr e (by rw [ho]; exact h1) h2
        rcases h3 with rfl | h3
        · exact hDe
        · have hlt : e.on < acc.size := by
            rcases Nat.lt_or_ge e.on acc.size with h | h
            · exact h
            · rw [Array.getD_eq_getD_getElem?, Array.getElem?_eq_none h] at h3
              simp at h3
          exact hacc e.on hlt j h3 D hD (hD _ hDe).2
      · have hlt : i < acc.size := by omega
        have hg : (acc.push (edgeBits acc o.after.toList)).getD i 0 = acc.getD i 0 := by
          simp [Array.getD_eq_getD_getElem?, Array.getElem?_push, Nat.ne_of_lt hlt]
        rw [hg] at h
        exact hacc i hlt j h D hD hr

theorem behind_spec {ops : Array Oper} {j i : Nat} (h : behind (aheadOf ops.toList #[]) j i = true) {D : Nat → Bool} (hD : closedP ops D) (hr : readyP ops D i) : D j = true :=
  aheadOf_spec ops ops.toList #[] (fun i => by simp) (fun i hi => by simp at hi) i j h D hD hr

/-- An order in which all that binds is kept, from what is done on. -/
inductive Lin (ops : Array Oper) : (Nat → Bool) → List Nat → Prop
  | done {D} : (∀ i, i < ops.size → D i = true) → Lin ops D []
  | step {D i l} : i < ops.size → D i = false → readyP ops D i → Lin ops (setD D i) l → Lin ops D (i :: l)

def cntU (D : Nat → Bool) : Nat → Nat
  | 0 => 0
  | n + 1 => (bif D n then 0 else 1) + cntU D n

theorem cntU_zero {D : Nat → Bool} : ∀ {n : Nat}, cntU D n = 0 → ∀ i, i < n → D i = true
  | 0, _, i, hi => by omega
  | n + 1, h, i, hi => by
    simp only [cntU] at h
    cases hD : D n with
    | false => rw [hD] at h; simp at h
    | true =>
      rw [hD] at h
      by_cases e : i = n
      · subst e; exact hD
      · exact cntU_zero (n := n) (by simpa using h) i (by omega)

theorem cntU_set {D : Nat → Bool} {x : Nat} (hx : D x = false) : ∀ {n : Nat}, x < n → cntU (setD D x) n + 1 = cntU D n
  | 0, h => by omega
  | n + 1, h => by
    have le : ∀ m, m ≤ x → cntU (setD D x) m = cntU D m := by
      intro m
      induction m with
      | zero => intro _; rfl
      | succ m ih => intro hm; simp only [cntU]; rw [setD_ne D (by omega), ih (by omega)]
    simp only [cntU]
    by_cases e : n = x
    · subst e
      rw [setD_same, hx, le n (Nat.le_refl _)]
      simp only [cond_true, cond_false]
      omega
    · rw [setD_ne D e]
      have := cntU_set hx (n := n) (by omega)
      omega

theorem edges_back {ops : Array Oper} (h : edgesC ops = true) {i : Nat} (hi : i < ops.size) {e : Edge} (he : e ∈ (ops.getD i default).after.toList) (hb : Region.binds .any e = true) : e.on < i := by
  unfold edgesC at h
  rw [List.all_eq_true] at h
  have h1 := h i (List.mem_range.2 hi)
  rw [Array.all_eq_true'] at h1
  have h2 := h1 e (by simpa using he)
  rw [hb] at h2
  have h3 := Nat.le_of_ble_eq_true (by simpa using h2)
  omega

/-- Whatever is not done: the first of them is ready. -/
theorem first_ready {ops : Array Oper} (h : edgesC ops = true) {D : Nat → Bool} : ∀ i, i < ops.size → D i = false → ∃ x, x < ops.size ∧ D x = false ∧ readyP ops D x := by
  intro i
  induction i using Nat.strongRecOn with
  | _ i ih =>
    intro hi hD
    by_cases hr : readyP ops D i
    · exact ⟨i, hi, hD, hr⟩
    · simp only [readyP, Classical.not_forall] at hr
      obtain ⟨e, h1, h2, h3⟩ := hr
      have hlt := edges_back h hi h1 h2
      exact ih e.on hlt (by omega) (by simpa using h3)

theorem lin_text_from {ops : Array Oper} (h : edgesC ops = true) : ∀ (m k : Nat) (D : Nat → Bool), k + m = ops.size → (∀ i, D i = true ↔ i < k) → Lin ops D (List.range' k m)
  | 0, k, D, hm, hD => .done fun i hi => (hD i).2 (by omega)
  | m + 1, k, D, hm, hD => by
    rw [List.range'_succ]
    refine .step (by omega) ?_ (fun e h1 h2 => (hD _).2 (edges_back h (by omega) h1 h2)) (lin_text_from h m (k + 1) _ (by omega) fun i => ?_)
    · cases hk : D k with
      | false => rfl
      | true => have := (hD k).1 hk; omega
    · by_cases e : i = k
      · subst e; simp [setD_same]
      · rw [setD_ne D e, hD i]; omega

theorem lin_text {ops : Array Oper} (h : edgesC ops = true) : Lin ops (fun _ => false) (List.range ops.size) := by
  rw [List.range_eq_range']
  exact lin_text_from h ops.size 0 _ (by omega) (by simp)

theorem lin_go {ops : Array Oper} (h : edgesC ops = true) : ∀ (fuel t : Nat) (listed : Array Bool), listed.size = ops.size → cntU (fun i => listed.getD i false) ops.size ≤ fuel →
    Lin ops (fun i => listed.getD i false) (Region.linearise.go .any ops fuel t listed [])
  | 0, t, listed, hs, hc => by
    simp only [Region.linearise.go, List.reverse_nil]
    exact .done (cntU_zero (by omega))
  | fuel + 1, t, listed, hs, hc => by
    simp only [Region.linearise.go]
    change Lin ops _ (match (Region.ready .any ops listed)[t % (Region.ready .any ops listed).length]? with
      | some i => Region.linearise.go .any ops fuel (t / (Region.ready .any ops listed).length) (listed.setIfInBounds i true) [i]
      | none => [].reverse)
    have hready : ∀ i, i ∈ Region.ready .any ops listed ↔ i < ops.size ∧ listed.getD i false = false ∧ readyP ops (fun i => listed.getD i false) i := by
      intro i
      simp only [Region.ready, List.mem_filter, List.mem_range, Bool.and_eq_true, Bool.not_eq_true']
      constructor
      · rintro ⟨h1, h2, h3⟩
        have hlt : i < listed.size := by omega
        refine ⟨h1, ?_, fun e he hb => ?_⟩
        · simpa [Array.getD_eq_getD_getElem?, hlt] using h2
        · have : ops[i]? = some ops[i] := by simp [h1]
          rw [this] at h3
          simp only [Option.map_some, Option.getD_some] at h3
          rw [Array.all_eq_true'] at h3
          have ho : ops.getD i default = ops[i] := by simp [Array.getD_eq_getD_getElem?, h1]
          rw [ho] at he
          have h4 := h3 e (by simpa using he)
          rw [hb] at h4
          simpa using h4
      · rintro ⟨h1, h2, h3⟩
        have hlt : i < listed.size := by omega
        refine ⟨h1, ?_, ?_⟩
        · simpa [Array.getD_eq_getD_getElem?, hlt] using h2
        · have : ops[i]? = some ops[i] := by simp [h1]
          rw [this]
          simp only [Option.map_some, Option.getD_some]
          rw [Array.all_eq_true']
          intro e he
          have ho : ops.getD i default = ops[i] := by simp [Array.getD_eq_getD_getElem?, h1]
          cases hb : Region.binds .any e with
          | false => simp
          | true =>
            have := h3 e (by rw [ho]; simpa using he) hb
            simpa using this
    cases hi : (Region.ready .any ops listed)[t % (Region.ready .any ops listed).length]? with
    | none =>
      have hnil : Region.ready .any ops listed = [] := by
        cases hr : Region.ready .any ops listed with
        | nil => rfl
        | cons x xs =>
          rw [hr] at hi
          have hlt : t % (x :: xs).length < (x :: xs).length := Nat.mod_lt _ (by simp)
          simp at hi
          simp at hlt
          omega
      refine .done fun i hi' => ?_
      cases hD : listed.getD i false with
      | true => rfl
      | false =>
        obtain ⟨x, h1, h2, h3⟩ := first_ready (D := fun i => listed.getD i false) h i hi' hD
        have := (hready x).2 ⟨h1, h2, h3⟩
        rw [hnil] at this
        cases this
    | some i =>
      obtain ⟨h1, h2, h3⟩ := (hready i).1 (List.mem_of_getElem? hi)
      simp only []
      rw [linearise_go_acc, List.reverse_singleton, List.singleton_append]
      have hset : (fun q => (listed.setIfInBounds i true).getD q false) = setD (fun i => listed.getD i false) i := by
        funext q
        by_cases e : q = i
        · subst e
          have : q < listed.size := by omega
          simp [setD_same, Array.getD_eq_getD_getElem?, this]
        · rw [setD_ne _ e]
          simp [Array.getD_eq_getD_getElem?, Array.getElem?_setIfInBounds, Ne.symm e]
      refine .step h1 h2 h3 ?_
      rw [← hset]
      refine lin_go h fuel _ _ (by simpa using hs) ?_
      rw [hset]
      have := cntU_set (D := fun i => listed.getD i false) h2 h1
      omega

theorem cntU_le (D : Nat → Bool) : ∀ n, cntU D n ≤ n
  | 0 => Nat.le_refl _
  | n + 1 => by
    have := cntU_le D n
    simp only [cntU]
    cases D n <;> simp <;> omega

theorem lin_schedule {ops : Array Oper} (h : edgesC ops = true) (t : Nat) : Lin ops (fun _ => false) (Region.schedule true ops t) := by
  simp only [Region.schedule, Bool.true_or, if_true, Region.linearise]
  have := lin_go h ops.size t (Array.replicate ops.size false) (by simp) (cntU_le _ _)
  have e : (fun i => (Array.replicate ops.size false).getD i false) = fun _ => false := by
    funext i
    by_cases hi : i < ops.size <;> simp [Array.getD_eq_getD_getElem?, hi]
  rw [e] at this
  exact this

end Go.Ev

namespace Go.Ev

/-! ### What the checker tells -/
structure RegC (P : Program) (N : Nat) (ops : Array Oper) (na : Nat) (cops : List CO) : Prop where
  size : ops.size = cops.length
  ranks : ranksC cops 0 = some na
  edges : edgesC ops = true
  apart : apartC ops (aheadOf ops.toList #[]) = true
  cover : coverC cops (aheadOf ops.toList #[]) = true
  each : ∀ i, i < ops.size → dstC N (ops.getD i default).dst (cops.getD i noCO).dst = true ∧ guardC ops i (ops.getD i default).guard (cops.getD i noCO).guard = true ∧
    copC P (ops.getD i default).op (cops.getD i noCO).op = true

theorem regionC_spec {P : Program} {N : Nat} {ops : Array Oper} {na : Nat} {cops : List CO} (h : regionC P N ops na cops = true) : RegC P N ops na cops := by
  unfold regionC at h
  simp only [Bool.and_eq_true] at h
  obtain ⟨⟨⟨⟨⟨h1, h2⟩, h3⟩, h4⟩, h5⟩, h6⟩ := h
  refine ⟨Nat.eq_of_beq_eq_true h1, by simpa using h2, h3, h4, h5, fun i hi => ?_⟩
  rw [List.all_eq_true] at h6
  have := h6 i (List.mem_range.2 hi)
  simp only [Bool.and_eq_true] at this
  exact ⟨this.1.1, this.1.2, this.2⟩

theorem ranksC_spec : ∀ {cops : List CO} {k m : Nat}, ranksC cops k = some m → k ≤ m ∧ ∀ (i : Nat) (o : CO), cops[i]? = some o →
    (∀ r x, o.op = .a r x → k ≤ r ∧ r < m ∧ o.guard = none ∧ o.chk = none) ∧ (∀ x, o.op = .e x → o.chk = none) ∧ (∀ x, o.op = .p x → o.chk = none ∨ isLoad o.op = true)
  | [], k, m, h => by
    simp only [ranksC, Option.some.injEq] at h
    subst h
    exact ⟨Nat.le_refl _, fun i o hi => by simp at hi⟩
  | o' :: os, k, m, h => by
    obtain ⟨d, op, g, chk⟩ := o'
    cases op with
    | a r x =>
      simp only [ranksC] at h
      obtain ⟨h1, h2⟩ := bif_some h
      simp only [Bool.and_eq_true] at h1
      have h3 := Nat.eq_of_beq_eq_true h1.1.1
      subst h3
      obtain ⟨h4, h5⟩ := ranksC_spec h2
      refine ⟨by omega, fun i o hi => ?_⟩
      cases i with
      | zero =>
        simp only [List.getElem?_cons_zero, Option.some.injEq] at hi
        subst hi
        refine ⟨fun r' x' e => ?_, (fun x e => by cases e), (fun x e => by cases e)⟩
        cases e
        exact ⟨Nat.le_refl _, by omega, by simpa using h1.1.2, by simpa using h1.2⟩
      | succ i =>
        obtain ⟨a, b, c⟩ := h5 i o (by simpa using hi)
        exact ⟨fun r' x' e => by have := a r' x' e; exact ⟨by omega, this.2⟩, b, c⟩
    | e x =>
      simp only [ranksC] at h
      obtain ⟨h1, h2⟩ := bif_some h
      obtain ⟨h4, h5⟩ := ranksC_spec h2
      refine ⟨h4, fun i o hi => ?_⟩
      cases i with
      | zero =>
        simp only [List.getElem?_cons_zero, Option.some.injEq] at hi
        subst hi
        exact ⟨(fun r' x' e => by cases e), fun x e => by simpa using h1, (fun x e => by cases e)⟩
      | succ i => exact h5 i o (by simpa using hi)
    | p x =>
      simp only [ranksC] at h
      obtain ⟨h1, h2⟩ := bif_some h
      obtain ⟨h4, h5⟩ := ranksC_spec h2
      refine ⟨h4, fun i o hi => ?_⟩
      cases i with
      | zero =>
        simp only [List.getElem?_cons_zero, Option.some.injEq] at hi
        subst hi
        exact ⟨(fun r' x' e => by cases e), (fun x e => by cases e), fun x e => by simpa using h1⟩
      | succ i => exact h5 i o (by simpa using hi)

theorem ranksC_lt : ∀ {cops : List CO} {k m : Nat}, ranksC cops k = some m → ∀ {i j : Nat} {o o' : CO} {r r' : Nat} {x x' : AOp}, cops[i]? = some o → cops[j]? = some o' → o.op = .a r x → o'.op = .a r' x' →
    i < j → r < r'
  | [], k, m, h, i, j, o, o', r, r', x, x', hi, _, _, _, _ => by simp at hi
  | q :: os, k, m, h, i, j, o, o', r, r', x, x', hi, hj, e1, e2, hij => by
    cases j with
    | zero => omega
    | succ j =>
      have hj' : os[j]? = some o' := by simpa using hj
      cases i with
      | zero =>
        simp only [List.getElem?_cons_zero, Option.some.injEq] at hi
        subst hi
        obtain ⟨d, op, g, chk⟩ := q
        dsimp only at e1
        subst e1
        simp only [ranksC] at h
        obtain ⟨h1, h2⟩ := bif_some h
        simp only [Bool.and_eq_true] at h1
        have h3 := Nat.eq_of_beq_eq_true h1.1.1
        have := ((ranksC_spec h2).2 j o' hj').1 r' x' e2
        omega
      | succ i =>
        have hi' : os[i]? = some o := by simpa using hi
        obtain ⟨d, op, g, chk⟩ := q
        cases op <;> simp only [ranksC] at h <;> exact ranksC_lt (bif_some h).2 hi' hj' e1 e2 (by omega)

/-! ### What is done -/
section
variable {P : Program} {B0 N na : Nat} {call : CallF} {ops : Array Oper} {cops : List CO} {F0 : Fr} {s : St} {R : Type} {K : Fr → St → Option R} {r : R} {φ0 : Emb} {w0 : World}

abbrev sq (call : CallF) (cops : List CO) (F0 : Fr) (s : St) (na i : Nat) : Fr × St := seqAt call s.next cops F0 (s.bump na) i
def vq (call : CallF) (cops : List CO) (F0 : Fr) (s : St) (na i : Nat) : Value :=
  match cops[i]? with
  | some o => match evStep call s.next o (sq call cops F0 s na i).1 (sq call cops F0 s na i).2 with
    | some q => q.1
    | none => undf
  | none => undf
def dq (cops : List CO) (i : Nat) : Option Nat := (cops.getD i noCO).dst

/-- The region as the evaluator ran it. -/
structure Ran (P : Program) (N : Nat) (call : CallF) (ops : Array Oper) (cops : List CO) (F0 : Fr) (s : St) (na : Nat) {R : Type} (K : Fr → St → Option R) (r : R) : Prop where
  ev : evOps call s.next K cops F0 (s.bump na) [] [] = some r
  c : RegC P N ops na cops
  wm : s.wm ≤ s.next

theorem evA_live {F : Fr} {i : Nat} {x : AOp} {v : Value} {ob : IObj} (h : evA F i x = some (v, ob)) : ob ≠ .dead := by
  rintro rfl
  cases x with
  | alloc zero => cases h
  | box x =>
    simp only [evA, opBox] at h
    obtain ⟨_, h⟩ := bif_some h
    cases h
  | buildSlice esz len zero parts =>
    simp only [evA, opBuildSlice] at h
    obtain ⟨_, _, h⟩ := Option.map_eq_some_iff.1 h
    cases h
  | makeMap => cases h
  | makeSlice esz bytes zero len cap =>
    simp only [evA, opMakeSlice] at h
    split at h
    · obtain ⟨_, h⟩ := bif_some h
      cases h
    · cases h
theorem noice_of {P : Program} {φ : Emb} {δ sz : Nat} {ob : IObj} {co : Obj} (ho : ObjRel P φ (some ob) δ sz (some co)) (h : ob ≠ .dead) : NoIce co := by
  intro cc' el' fz' e
  cases ob with
  | dead => exact absurd rfl h
  | cells ro c =>
    obtain ⟨cc, el, fz, h1, _, _, _, _, h2⟩ := ho
    cases h1
    cases e
    exact h2
  | map es =>
    obtain ⟨ces, clk, h1, _⟩ := ho
    cases h1
    cases e
  | loop r =>
    obtain ⟨L, h1, _⟩ := ho
    cases h1
    cases e


/-- An operation that makes a block: where it stands, its block's number, what it makes. -/
structure IsAl (call : CallF) (cops : List CO) (F0 : Fr) (s : St) (na a i : Nat) (ob : IObj) : Prop where
  ex : ∃ o rk x v, cops[a]? = some o ∧ o.op = .a rk x ∧ i = s.next + rk ∧ evA (sq call cops F0 s na a).1 i x = some (v, ob)

theorem Ran.succ (h : Ran P N call ops cops F0 s na K r) {i : Nat} {o : CO} (hi : cops[i]? = some o) :
    ∃ s', evStep call s.next o (sq call cops F0 s na i).1 (sq call cops F0 s na i).2 = some (vq call cops F0 s na i, s') ∧
      sq call cops F0 s na (i + 1) = (putO (sq call cops F0 s na i).1 o.dst (vq call cops F0 s na i), s') := by
  obtain ⟨v, s', h1, h2⟩ := seqAt_succ cops i o h.ev hi
  have : vq call cops F0 s na i = v := by
    unfold vq
    rw [hi]
    dsimp only [sq]
    rw [h1]
  rw [this]
  exact ⟨s', h1, h2⟩

theorem Ran.fr (h : Ran P N call ops cops F0 s na K r) {t : Nat} : ∀ i, i ≤ cops.length → (sq call cops F0 s na i).1 t = valD (fun _ => true) (dq cops) (vq call cops F0 s na) F0 i t
  | 0, _ => by simp [sq, seqAt, valD]
  | i + 1, hi => by
    have hi' : cops[i]? = some cops[i] := by simp
    obtain ⟨s', _, h2⟩ := h.succ hi'
    rw [h2]
    have hd : dq cops i = cops[i].dst := by simp [dq, List.getD, hi']
    simp only [valD, cond_true, putO_app, hd]
    rw [h.fr i (by omega)]

theorem Ran.al (h : Ran P N call ops cops F0 s na K r) {a rk : Nat} {o : CO} {x : AOp} (ha : cops[a]? = some o) (ho : o.op = .a rk x) :
    ∃ ob, evA (sq call cops F0 s na a).1 (s.next + rk) x = some (vq call cops F0 s na a, ob) ∧ (sq call cops F0 s na (a + 1)).2 = (sq call cops F0 s na a).2.put (s.next + rk) ob ∧
      IsAl call cops F0 s na a (s.next + rk) ob := by
  obtain ⟨s', h1, h2⟩ := h.succ ha
  simp only [evStep, ho] at h1
  obtain ⟨q, hq, h3⟩ := Option.map_eq_some_iff.1 h1
  simp only [Prod.mk.injEq] at h3
  refine ⟨q.2, ?_, ?_, ⟨o, rk, x, q.1, ha, ho, rfl, hq⟩⟩
  · rw [← h3.1]; exact hq
  · rw [h2]; exact h3.2.symm

theorem IsAl.range {a i : Nat} {ob : IObj} (h : Ran P N call ops cops F0 s na K r) (k : IsAl call cops F0 s na a i ob) : s.next ≤ i ∧ i < s.next + na ∧ a < cops.length := by
  obtain ⟨o, rk, x, v, ha, ho, rfl, _⟩ := k.ex
  have := ((ranksC_spec h.c.ranks).2 a o ha).1 rk x ho
  exact ⟨by omega, by omega, (List.getElem?_eq_some_iff.1 ha).1⟩

theorem IsAl.inj {a a' i : Nat} {ob ob' : IObj} (h : Ran P N call ops cops F0 s na K r) (k : IsAl call cops F0 s na a i ob) (k' : IsAl call cops F0 s na a' i ob') : a = a' ∧ ob = ob' := by
  obtain ⟨o, rk, x, v, ha, ho, hi, he⟩ := k.ex
  obtain ⟨o', rk', x', v', ha', ho', hi', he'⟩ := k'.ex
  have hrk : rk = rk' := by omega
  subst hrk
  have haa : a = a' := by
    rcases Nat.lt_trichotomy a a' with hlt | heq | hgt
    · have := ranksC_lt h.c.ranks ha ha' ho ho' hlt; omega
    · exact heq
    · have := ranksC_lt h.c.ranks ha' ha ho' ho hgt; omega
  subst haa
  rw [ha] at ha'
  cases ha'
  rw [ho] at ho'
  cases ho'
  rw [he] at he'
  cases he'
  exact ⟨rfl, rfl⟩

def effAt (cops : List CO) (j : Nat) : Prop := ∃ o, cops[j]? = some o ∧ isEff o.op = true

/-- No effect from i on ahead of j. -/
def noEff (cops : List CO) (i j : Nat) : Prop := ∀ q, i ≤ q → q < j → ¬ effAt cops q

/-- The states where only blocks are made between. -/
theorem Ran.between (h : Ran P N call ops cops F0 s na K r) {pe : Nat} : ∀ j, pe ≤ j → j ≤ cops.length → noEff cops pe j →
    (∀ a i ob, IsAl call cops F0 s na a i ob → pe ≤ a → a < j → (sq call cops F0 s na j).2.get i = some ob) ∧
    (∀ i, (∀ a ob, IsAl call cops F0 s na a i ob → pe ≤ a → a < j → False) → (sq call cops F0 s na j).2.get i = (sq call cops F0 s na pe).2.get i) ∧
    (sq call cops F0 s na j).2.next = (sq call cops F0 s na pe).2.next ∧ (sq call cops F0 s na j).2.wm = (sq call cops F0 s na pe).2.wm := by
  intro j
  induction j with
  | zero =>
    intro h1 h2 h3
    have : pe = 0 := by omega
    subst this
    exact ⟨fun a i ob _ _ h => by omega, fun _ _ => rfl, rfl, rfl⟩
  | succ j ih =>
    intro h1 h2 h3
    by_cases hp : pe = j + 1
    · subst hp
      exact ⟨fun a i ob _ _ h => by omega, fun _ _ => rfl, rfl, rfl⟩
    · obtain ⟨i1, i2, i3, i4⟩ := ih (by omega) (by omega) (fun q a b => h3 q a (by omega))
      have hj : cops[j]? = some cops[j] := by simp
      obtain ⟨s', e1, e2⟩ := h.succ hj
      cases ho : cops[j].op with
      | e x => exact (h3 j (by omega) (by omega) ⟨_, hj, by rw [ho]; rfl⟩).elim
      | p x =>
        simp only [evStep, ho] at e1
        obtain ⟨v, _, h4⟩ := Option.map_eq_some_iff.1 e1
        simp only [Prod.mk.injEq] at h4
        rw [e2, ← h4.2]
        refine ⟨fun a i ob k h5 h6 => ?_, fun i h5 => ?_, i3, i4⟩
        · by_cases ha : a = j
          · subst ha
            obtain ⟨o, rk, x', v', ha, ho', _⟩ := k.ex
            rw [hj] at ha
            cases ha
            rw [ho] at ho'
            cases ho'
          · exact i1 a i ob k h5 (by omega)
        · exact i2 i (fun a ob k h6 h7 => h5 a ob k h6 (by omega))
      | a rk x =>
        obtain ⟨ob0, g1, g2, g3⟩ := h.al hj ho
        rw [g2]
        refine ⟨fun a i ob k h5 h6 => ?_, fun i h5 => ?_, i3, i4⟩
        · rw [St.get_put]
          by_cases ha : a = j
          · subst ha
            obtain ⟨o, rk', x', v', ha, ho', rfl, he⟩ := k.ex
            rw [hj] at ha
            cases ha
            rw [ho] at ho'
            cases ho'
            rw [g1] at he
            cases he
            rw [if_pos rfl]
          · rw [if_neg]
            · exact i1 a i ob k h5 (by omega)
            · rintro rfl
              exact ha (k.inj h g3).1
        · rw [St.get_put]
          by_cases hi : i = s.next + rk
          · subst hi
            exact (h5 j ob0 g3 (by omega) (by omega)).elim
          · rw [if_neg hi]
            exact i2 i (fun a ob k h6 h7 => h5 a ob k h6 (by omega))

/-- Some operations, D, are done; the effects among them are those ahead of pe. -/
structure RInv (P : Program) (B0 N : Nat) (call : CallF) (ops : Array Oper) (cops : List CO) (F0 : Fr) (s : St) (na : Nat) (φ0 : Emb) (w0 : World)
    (D : Nat → Bool) (pe : Nat) (φ : Emb) (ts : Array Value) (w : World) (HD : Get) : Prop where
  clo : closedP ops D
  pe_le : pe ≤ cops.length
  eff : ∀ j, effAt cops j → (D j = true ↔ j < pe)
  peEff : pe = 0 ∨ ∃ q, pe = q + 1 ∧ effAt cops q
  fr : ∀ t, V φ (valD D (dq cops) (vq call cops F0 s na) F0 cops.length t) (ts.getD t undf)
  size : ts.size = N
  rel : Rel P B0 φ HD w
  hdA : ∀ a i ob, IsAl call cops F0 s na a i ob → D a = true → pe ≤ a → HD i = some ob
  hdB : ∀ i, (∀ a ob, IsAl call cops F0 s na a i ob → D a = true → pe ≤ a → False) → HD i = (sq call cops F0 s na pe).2.get i
  und : ∀ a i ob, IsAl call cops F0 s na a i ob → D a = false → φ.blk i = none
  born : ∀ a i ob, IsAl call cops F0 s na a i ob → D a = false → a < pe → (sq call cops F0 s na pe).2.get i = some ob
  abs : ∀ a i ob, IsAl call cops F0 s na a i ob → pe ≤ a → (sq call cops F0 s na pe).2.get i = none
  fresh : ∀ i, (sq call cops F0 s na pe).2.next ≤ i → φ.blk i = none ∧ (sq call cops F0 s na pe).2.get i = none
  nxt : s.next + na ≤ (sq call cops F0 s na pe).2.next
  wm : (sq call cops F0 s na pe).2.wm = s.wm
  B0 : B0 ≤ w.heap.size
  tr : Tr s.wm φ0 s.get w0 φ HD w
  low : ∀ i, i < s.wm → (sq call cops F0 s na pe).2.get i = s.get i
  abs0 : ∀ i, i < s.next → s.get i = none → (sq call cops F0 s na pe).2.get i = none
  unb0 : ∀ i, i < s.next → φ0.blk i = none → φ.blk i = none ∧ (sq call cops F0 s na pe).2.get i = s.get i

section
variable {D : Nat → Bool} {pe : Nat} {φ : Emb} {ts : Array Value} {w : World} {HD : Get}

/-- What stands in a state that differs only by blocks made is known of the done ones. -/
theorem RInv.ge (I : RInv P B0 N call ops cops F0 s na φ0 w0 D pe φ ts w HD) (h : Ran P N call ops cops F0 s na K r) {j : Nat} (h1 : pe ≤ j) (h2 : j ≤ cops.length) (h3 : noEff cops pe j) :
    ∀ i o, φ.blk i ≠ none → (sq call cops F0 s na j).2.get i = some o → HD i = some o := by
  intro i o hb hg
  obtain ⟨b1, b2, _, _⟩ := h.between j h1 h2 h3
  by_cases hA : ∃ a ob, IsAl call cops F0 s na a i ob ∧ pe ≤ a ∧ a < j
  · obtain ⟨a, ob, k, k1, k2⟩ := hA
    rw [b1 a i ob k k1 k2] at hg
    cases hg
    refine I.hdA a i _ k ?_ k1
    cases hD : D a with
    | true => rfl
    | false => exact absurd (I.und a i _ k hD) hb
  · rw [b2 i (fun a ob k k1 k2 => hA ⟨a, ob, k, k1, k2⟩)] at hg
    rw [I.hdB i ?_]
    · exact hg
    · intro a ob' k kD k1
      rw [I.abs a i ob' k k1] at hg
      cases hg

theorem getD_some {α : Type} {l : List α} {i : Nat} {o d : α} (h : l[i]? = some o) : l.getD i d = o := by simp [List.getD, h]
theorem arr_getD {α : Type} {l : Array α} {i : Nat} {o d : α} (h : l[i]? = some o) : l.getD i d = o := by simp [Array.getD_eq_getD_getElem?, h]

theorem apart_spec (hc : RegC P N ops na cops) {j i : Nat} (hij : j < i) (hi : i < ops.size) : behind (aheadOf ops.toList #[]) j i = true ∨
    ((∀ d, (ops.getD j default).dst = some d → d ∉ readsOf ops (ops.getD i default) ∧ (ops.getD i default).dst ≠ some d) ∧
     (∀ d, (ops.getD i default).dst = some d → d ∉ readsOf ops (ops.getD j default))) := by
  have h := hc.apart
  unfold apartC at h
  rw [List.all_eq_true] at h
  have h1 := h i (List.mem_range.2 hi)
  rw [List.all_eq_true] at h1
  have h2 := h1 j (List.mem_range.2 hij)
  simp only [Bool.or_eq_true, Bool.and_eq_true] at h2
  rcases h2 with h2 | ⟨h2, h3⟩
  · exact .inl h2
  · refine .inr ⟨fun d hd => ?_, fun d hd => ?_⟩
    · rw [hd] at h2
      simpa using h2
    · rw [hd] at h3
      simpa using h3

theorem dst_eq (hc : RegC P N ops na cops) {i : Nat} (hi : i < ops.size) : (ops.getD i default).dst = dq cops i := by
  have h := (hc.each i hi).1
  unfold dstC at h
  unfold dq
  split at h
  · rename_i e1 e2; rw [e1, e2]
  · rename_i e1 e2
    simp only [Bool.and_eq_true] at h
    rw [e1, e2, Nat.eq_of_beq_eq_true h.1]
  · cases h

/-- What a ready operation reads is what it reads in the text's order. -/
theorem RInv.read (I : RInv P B0 N call ops cops F0 s na φ0 w0 D pe φ ts w HD) (h : Ran P N call ops cops F0 s na K r) {x : Nat} (hx : x < ops.size) (hD : D x = false) (hr : readyP ops D x) {t : Nat}
    (ht : t ∈ readsOf ops (ops.getD x default)) : V φ ((sq call cops F0 s na x).1 t) (ts.getD t undf) := by
  have hs := h.c.size
  rw [h.fr x (by omega)]
  have h1 := I.fr t
  rw [valD_same (x := x) cops.length (by omega) ?_, valD_all x ?_] at h1
  · exact h1
  · intro j hj hd
    rcases apart_spec h.c hj hx with hb | ⟨ha, _⟩
    · exact behind_spec hb I.clo hr
    · rw [← dst_eq h.c (by omega)] at hd
      exact absurd ht (ha t hd).1
  · intro j hj hjn hd
    cases hDj : D j with
    | false => rfl
    | true =>
      have hne : j ≠ x := by rintro rfl; rw [hD] at hDj; cases hDj
      rcases apart_spec h.c (show x < j by omega) (by omega) with hb | ⟨_, ha⟩
      · have := behind_spec hb I.clo (I.clo j hDj).2
        rw [hD] at this
        cases this
      · rw [← dst_eq h.c (by omega)] at hd
        exact absurd ht (ha t hd)

/-- The frame behind an operation more. -/
theorem RInv.put (I : RInv P B0 N call ops cops F0 s na φ0 w0 D pe φ ts w HD) (h : Ran P N call ops cops F0 s na K r) {x : Nat} (hx : x < ops.size) (hD : D x = false) (hr : readyP ops D x)
    {φ' : Emb} (hφ : Ext φ φ') {v' : Value} (hv : V φ' (vq call cops F0 s na x) v') (t : Nat) :
    V φ' (valD (setD D x) (dq cops) (vq call cops F0 s na) F0 cops.length t) (((⟨ts, []⟩ : Act).put (ops.getD x default).dst v').tmps.getD t undf) := by
  have hs := h.c.size
  rw [valD_set hD cops.length ?_]
  · have h1 := (I.fr t).mono hφ
    have hd := (h.c.each x hx).1
    unfold dstC at hd
    cases hdx : (ops.getD x default).dst with
    | none =>
      rw [if_neg]
      · exact h1
      · rintro ⟨_, e⟩
        rw [← dst_eq h.c hx, hdx] at e
        cases e
    | some d =>
      have hdq : dq cops x = some d := by rw [← dst_eq h.c hx, hdx]
      have hdN : d < ts.size := by
        rw [hdx] at hd
        rw [I.size]
        unfold dq at hdq
        rw [hdq] at hd
        simp only [Bool.and_eq_true] at hd
        exact Nat.le_of_ble_eq_true hd.2
      rw [hdq]
      by_cases e : t = d
      · subst e
        rw [if_pos ⟨by omega, rfl⟩]
        simpa [Act.put, Array.getD_eq_getD_getElem?, hdN] using hv
      · rw [if_neg (fun q => e (by simpa using q.2.symm))]
        simpa [Act.put, Array.getD_eq_getD_getElem?, Array.getElem?_setIfInBounds, Ne.symm e] using h1
  · intro j hj hjn hDj hdx hdj
    rcases apart_spec h.c hj (show j < ops.size by omega) with hb | ⟨ha, _⟩
    · have := behind_spec hb I.clo (I.clo j hDj).2
      rw [hD] at this
      cases this
    · rw [← dst_eq h.c hx] at hdx
      rw [← dst_eq h.c (by omega)] at hdj
      exact (ha t hdx).2 hdj

theorem RInv.clo' (I : RInv P B0 N call ops cops F0 s na φ0 w0 D pe φ ts w HD) {x : Nat} (hx : x < ops.size) (hr : readyP ops D x) : closedP ops (setD D x) := by
  have up : ∀ i, D i = true → setD D x i = true := fun i hi => by simp [setD, hi]
  intro i hi
  rcases setD_or hi with rfl | hi
  · exact ⟨hx, fun e h1 h2 => up _ (hr e h1 h2)⟩
  · exact ⟨(I.clo i hi).1, fun e h1 h2 => up _ ((I.clo i hi).2 e h1 h2)⟩

theorem putSize (ts : Array Value) (d : Option Nat) (v : Value) : ((⟨ts, []⟩ : Act).put d v).tmps.size = ts.size := by
  cases d <;> simp [Act.put]

/-- An operation that leaves memory alone is done. -/
theorem RInv.doP (I : RInv P B0 N call ops cops F0 s na φ0 w0 D pe φ ts w HD) (h : Ran P N call ops cops F0 s na K r) {x : Nat} (hx : x < ops.size) (hD : D x = false) (hr : readyP ops D x)
    {o : CO} {p : POp} (ho : cops[x]? = some o) (hop : o.op = .p p) {v' : Value} (hv : V φ (vq call cops F0 s na x) v') :
    RInv P B0 N call ops cops F0 s na φ0 w0 (setD D x) pe φ ((⟨ts, []⟩ : Act).put (ops.getD x default).dst v').tmps w HD := by
  have noal : ∀ a i ob, IsAl call cops F0 s na a i ob → a ≠ x := by
    rintro a i ob k rfl
    obtain ⟨o', rk, x', v', ha, ho', _⟩ := k.ex
    rw [ho] at ha
    cases ha
    rw [hop] at ho'
    cases ho'
  refine ⟨I.clo' hx hr, I.pe_le, fun j he => ?_, I.peEff, fun t => I.put h hx hD hr (Ext.refl _) hv t, by rw [putSize]; exact I.size, I.rel, fun a i ob k hDa => ?_, fun i hi => ?_, fun a i ob k hDa => ?_, fun a i ob k hDa => ?_,
    I.abs, I.fresh, I.nxt, I.wm, I.B0, I.tr, I.low, I.abs0, I.unb0⟩
  · have : j ≠ x := by
      rintro rfl
      obtain ⟨o', h1, h2⟩ := he
      rw [ho] at h1
      cases h1
      rw [hop] at h2
      cases h2
    rw [setD_ne D this]
    exact I.eff j he
  · rw [setD_ne D (noal a i ob k)] at hDa
    exact I.hdA a i ob k hDa
  · exact I.hdB i (fun a ob k k1 k2 => hi a ob k (by rw [setD_ne D (noal a i ob k)]; exact k1) k2)
  · rw [setD_ne D (noal a i ob k)] at hDa
    exact I.und a i ob k hDa
  · rw [setD_ne D (noal a i ob k)] at hDa
    exact I.born a i ob k hDa

/-- A block is made. -/
theorem RInv.doA (I : RInv P B0 N call ops cops F0 s na φ0 w0 D pe φ ts w HD) (h : Ran P N call ops cops F0 s na K r) {x : Nat} (hx : x < ops.size) (hD : D x = false) (hr : readyP ops D x)
    {i0 : Nat} {ob : IObj} (hal : IsAl call cops F0 s na x i0 ob) {co : Obj} {sz : Nat} (hob : ObjRel P (φ.add i0 w.heap.size 0 sz) (some ob) 0 sz (some co))
    {v' : Value} (hv : V (φ.add i0 w.heap.size 0 sz) (vq call cops F0 s na x) v') :
    ∃ HD', RInv P B0 N call ops cops F0 s na φ0 w0 (setD D x) pe (φ.add i0 w.heap.size 0 sz) ((⟨ts, []⟩ : Act).put (ops.getD x default).dst v').tmps (push w co) HD' := by
  have hn : φ.blk i0 = none := I.und x i0 ob hal hD
  have hext := Emb.add_ext hn w.heap.size 0 sz
  obtain ⟨r1, r2, r3⟩ := hal.range h
  let HD' : Get := fun i => if i = i0 then some ob else HD i
  have hH : HD' i0 = some ob := if_pos rfl
  have hH' : ∀ j, j ≠ i0 → HD' j = HD j := fun j hj => if_neg hj
  have hne : ∀ a i ob', IsAl call cops F0 s na a i ob' → a ≠ x → i ≠ i0 := by
    rintro a i ob' k hax rfl
    exact hax (k.inj h hal).1
  have hblk : ∀ i, i ≠ i0 → (φ.add i0 w.heap.size 0 sz).blk i = φ.blk i := fun i hi => by simp [Emb.add, hi]
  have hwm := h.wm
  refine ⟨HD', I.clo' hx hr, I.pe_le, fun j he => ?_, I.peEff, fun t => I.put h hx hD hr hext hv t, by rw [putSize]; exact I.size, I.rel.alloc hn hH hH' I.B0 hob, fun a i ob' k hDa hpe => ?_, fun i hi => ?_, fun a i ob' k hDa => ?_,
    fun a i ob' k hDa => ?_, I.abs, fun i hi => ?_, I.nxt, I.wm, by rw [push_size]; have := I.B0; omega, I.tr.trans (Tr.alloc hn hH' (noice_of hob (by obtain ⟨o, rk, x', v', _, _, _, he⟩ := hal.ex; exact evA_live he))), I.low, I.abs0, fun i hi hb => ?_⟩
  · have : j ≠ x := by
      rintro rfl
      obtain ⟨o', h1, h2⟩ := he
      obtain ⟨o, rk, x', v', ha, ho, _⟩ := hal.ex
      rw [ha] at h1
      cases h1
      rw [ho] at h2
      cases h2
    rw [setD_ne D this]
    exact I.eff j he
  · by_cases hax : a = x
    · subst hax
      obtain ⟨o, rk, x', v', ha, ho, hi, he⟩ := hal.ex
      obtain ⟨o2, rk2, x2, v2, ha2, ho2, hi2, he2⟩ := k.ex
      rw [ha] at ha2
      cases ha2
      rw [ho] at ho2
      cases ho2
      have : i = i0 := by omega
      subst this
      rw [he] at he2
      cases he2
      exact hH
    · rw [hH' i (hne a i ob' k hax)]
      rw [setD_ne D hax] at hDa
      exact I.hdA a i ob' k hDa hpe
  · by_cases hii : i = i0
    · subst hii
      rw [hH]
      rcases Nat.lt_or_ge x pe with hlt | hge
      · exact (I.born x i ob hal hD hlt).symm
      · exact (hi x ob hal (setD_same D x) hge).elim
    · rw [hH' i hii]
      refine I.hdB i (fun a ob' k k1 k2 => hi a ob' k ?_ k2)
      simp [setD, k1]
  · have hax : a ≠ x := by rintro rfl; rw [setD_same] at hDa; cases hDa
    rw [setD_ne D hax] at hDa
    rw [hblk i (hne a i ob' k hax)]
    exact I.und a i ob' k hDa
  · have hax : a ≠ x := by rintro rfl; rw [setD_same] at hDa; cases hDa
    rw [setD_ne D hax] at hDa
    exact I.born a i ob' k hDa
  · have := I.nxt
    rw [hblk i (by omega)]
    exact I.fresh i hi
  · rw [hblk i (by omega)]
    exact I.unb0 i hi hb

end
end
end Go.Ev

namespace Go.Ev

section
variable {P : Program} {B0 : Nat} {φ φ' : Emb} {w w' : World}

theorem Rel.weakenOn {H H' : Get} (r : Rel P B0 φ H w) (h : ∀ i, φ.blk i ≠ none → H' i = H i ∨ live (H' i) = false) : Rel P B0 φ H' w := by
  have hw : ∀ i, φ.blk i ≠ none → wr (H' i) = true → wr (H i) = true := fun i hb e => by
    rcases h i hb with h | h
    · rwa [← h]
    · rw [live_of_wr e] at h; cases h
  have hl : ∀ i, φ.blk i ≠ none → live (H' i) = true → live (H i) = true := fun i hb e => by
    rcases h i hb with h | h
    · rwa [← h]
    · rw [e] at h; cases h
  have ne : ∀ {i : Nat} {x : Nat × Nat × Nat}, φ.blk i = some x → φ.blk i ≠ none := fun e e' => by rw [e] at e'; cases e'
  refine ⟨r.lt, fun i b δ sz e => ?_, fun i j b x y hne e1 e2 w1 l2 => r.sep i j b x y hne e1 e2 (hw i (ne e1) w1) (hl j (ne e2) l2), fun i b x e w1 => r.base i b x e (hw i (ne e) w1), r.imo,
    fun i b x e w1 => r.imsep i b x e (hw i (ne e) w1)⟩
  rcases h i (ne e) with h | h
  · rw [h]; exact r.obj i b δ sz e
  · rcases dead_of h with h | h <;> rw [h] <;> trivial

theorem Rel.live_wr {H : Get} (r : Rel P B0 φ H w) {i : Nat} {x : Nat × Nat × Nat} (e : φ.blk i = some x) (h : live (H i) = true) : wr (H i) = true := by
  obtain ⟨b, δ, sz⟩ := x
  have := r.obj i b δ sz e
  cases hh : H i with
  | none => rw [hh] at h; cases h
  | some o =>
    rw [hh] at this h
    cases o with
    | cells ro c =>
      obtain ⟨_, _, _, _, _, _, _, h1, _⟩ := this
      subst h1
      rfl
    | map es => rfl
    | loop l => rfl
    | dead => cases h

/-- Blocks, A, that a step does not know of, stay beside it. -/
theorem Rel.frame {HD HD' : Get} {sx sx' : St} (A : Nat → Prop) (r : Rel P B0 φ HD w) (st : Step P B0 φ sx w φ' sx' w')
    (hA : ∀ i, A i → i < sx.next ∧ sx.wm ≤ i ∧ sx.get i = none ∧ HD' i = HD i) (hN : ∀ i, ¬ A i → HD' i = sx'.get i) (hM : ∀ i, ¬ A i → φ.blk i ≠ none → HD i = sx.get i) :
    Rel P B0 φ' HD' w' ∧ Tr sx.wm φ HD w φ' HD' w' := by
  have g := st.good
  have bk : ∀ {i : Nat} {x : Nat × Nat × Nat}, i < sx.next → φ'.blk i = some x → φ.blk i = some x := by
    intro i x hi e
    cases h : φ.blk i with
    | none => rw [(st.unborn i hi h).1] at e; cases e
    | some y => rw [st.tr.ext.blk i y h] at e; exact e
  have ne : ∀ {i : Nat} {x : Nat × Nat × Nat}, φ.blk i = some x → φ.blk i ≠ none := fun e e' => by rw [e] at e'; cases e'
  have wA : ∀ {i : Nat}, wr (sx.get i) = true → ¬ A i := fun h hAi => by rw [(hA _ hAi).2.2.1] at h; cases h
  have lA : ∀ {i : Nat}, live (sx.get i) = true → ¬ A i := fun h hAi => by rw [(hA _ hAi).2.2.1] at h; cases h
  -- a block that is written behind the step, where an A's block lies
  have key : ∀ (i j b : Nat) (x y : Nat × Nat), A i → φ.blk i = some (b, x) → live (HD i) = true → ¬ A j → φ'.blk j = some (b, y) → live (sx'.get j) = true →
      ∃ k z, k ≠ i ∧ φ.blk k = some (b, z) ∧ wr (HD k) = true := by
    intro i j b x y hAi e1 l1 hAj e2 l2
    have w2 := g.rel.live_wr e2 l2
    by_cases hj : sx.wm ≤ j
    · rcases st.tr.new j b y hj e2 w2 with h | ⟨k, z, _, e3, w3⟩
      · have := r.lt i b x.1 x.2 e1; omega
      · refine ⟨k, z, ?_, e3, by rw [hM k (wA w3) (ne e3)]; exact w3⟩
        rintro rfl
        exact wA w3 hAi
    · have hlow := st.low j (by omega)
      have gw := st.next
      have hjn : j < sx.next := by
        have h1 := (hA i hAi).1
        have h2 := (hA i hAi).2.1
        omega
      rw [hlow] at w2
      have e3 := bk hjn e2
      exact ⟨j, y, (fun h => hAj (h ▸ hAi)), e3, by rw [hM j hAj (ne e3)]; exact w2⟩
  refine ⟨⟨?_, ?_, ?_, ?_, ?_, ?_⟩, ⟨st.tr.ext, st.tr.os, st.tr.tape, st.tr.output, st.tr.size, ?_, ?_, st.tr.newim, st.tr.ice⟩⟩
  · exact g.rel.lt
  · intro i b δ sz e
    by_cases hAi : A i
    · obtain ⟨h1, h2, h3, h4⟩ := hA i hAi
      have e' := bk h1 e
      rw [h4]
      cases hl : live (HD i) with
      | false => rcases dead_of hl with h | h <;> rw [h] <;> trivial
      | true =>
        rw [st.tr.keep b (r.lt i b δ sz e') ?_]
        · exact (r.obj i b δ sz e').mono st.tr.ext
        · intro j y hj ej
          cases hw : wr (sx.get j) with
          | false => rfl
          | true =>
            have hji : j ≠ i := fun h => wA hw (h ▸ hAi)
            exact (r.sep j i b _ _ hji ej e' (by rw [hM j (wA hw) (ne ej)]; exact hw) hl).elim
    · rw [hN i hAi]
      exact g.rel.obj i b δ sz e
  · intro i j b x y hne e1 e2 w1 l2
    by_cases hAi : A i
    · obtain ⟨h1, h2, h3, h4⟩ := hA i hAi
      have e1' := bk h1 e1
      rw [h4] at w1
      by_cases hAj : A j
      · obtain ⟨j1, j2, j3, j4⟩ := hA j hAj
        rw [j4] at l2
        exact r.sep i j b x y hne e1' (bk j1 e2) w1 l2
      · rw [hN j hAj] at l2
        obtain ⟨k, z, hk, e3, w3⟩ := key i j b x y hAi e1' (live_of_wr w1) hAj e2 l2
        exact r.sep i k b x z (Ne.symm hk) e1' e3 w1 (live_of_wr w3)
    · rw [hN i hAi] at w1
      by_cases hAj : A j
      · obtain ⟨j1, j2, j3, j4⟩ := hA j hAj
        rw [j4] at l2
        have e2' := bk j1 e2
        obtain ⟨k, z, hk, e3, w3⟩ := key j i b y x hAj e2' l2 hAi e1 (live_of_wr w1)
        exact r.sep k j b z y hk e3 e2' w3 l2
      · rw [hN j hAj] at l2
        exact g.rel.sep i j b x y hne e1 e2 w1 l2
  · intro i b x e w1
    by_cases hAi : A i
    · obtain ⟨h1, h2, h3, h4⟩ := hA i hAi
      rw [h4] at w1
      exact r.base i b x (bk h1 e) w1
    · rw [hN i hAi] at w1
      exact g.rel.base i b x e w1
  · exact g.rel.imo
  · intro i b x e w1
    by_cases hAi : A i
    · obtain ⟨h1, h2, h3, h4⟩ := hA i hAi
      rw [h4] at w1
      have e' := bk h1 e
      cases him : φ'.im b with
      | none => rfl
      | some cc =>
        rcases st.tr.newim b cc him with h | h
        · rw [r.imsep i b x e' w1] at h; cases h
        · have := r.lt i b x.1 x.2 e'; omega
    · rw [hN i hAi] at w1
      exact g.rel.imsep i b x e w1
  · intro b hb h
    refine st.tr.keep b hb fun i x hi e => ?_
    by_cases hAi : A i
    · rw [(hA i hAi).2.2.1]; rfl
    · rw [← hM i hAi (ne e)]; exact h i x hi e
  · intro i b x hi e w1
    by_cases hAi : A i
    · obtain ⟨h1, h2, h3, h4⟩ := hA i hAi
      rw [h4] at w1
      exact .inr ⟨i, x, hi, bk h1 e, w1⟩
    · rw [hN i hAi] at w1
      rcases st.tr.new i b x hi e w1 with h | ⟨k, z, hk, e3, w3⟩
      · exact .inl h
      · exact .inr ⟨k, z, hk, e3, by rw [hM k (wA w3) (ne e3)]; exact w3⟩
end

section
variable {P : Program} {B0 N na : Nat} {call : CallF} {ops : Array Oper} {cops : List CO} {F0 : Fr} {s : St} {R : Type} {K : Fr → St → Option R} {r : R} {φ0 : Emb} {w0 : World}
variable {D : Nat → Bool} {pe : Nat} {φ : Emb} {ts : Array Value} {w : World} {HD : Get}

theorem cover_spec (hc : RegC P N ops na cops) {i j : Nat} (hi : i < cops.length) (hj : effAt cops j) : coverAt cops (aheadOf ops.toList #[]) i j = true := by
  obtain ⟨o, h1, h2⟩ := hj
  have hjl := (List.getElem?_eq_some_iff.1 h1).1
  have h := hc.cover
  unfold coverC at h
  rw [List.all_eq_true] at h
  have h3 := h i (List.mem_range.2 hi)
  rw [List.all_eq_true] at h3
  have h4 := h3 j (List.mem_range.2 hjl)
  rw [getD_some h1, h2] at h4
  simpa using h4

theorem ble_succ {i j : Nat} (h : i < j) : Nat.ble (i + 1) j = true := Nat.ble_eq_true_of_le h
theorem ble_not {i j : Nat} (h : j ≤ i) : Nat.ble (i + 1) j = false := by
  cases hb : Nat.ble (i + 1) j with
  | false => rfl
  | true => have := Nat.le_of_ble_eq_true hb; omega

/-- What is ordered with each effect stands where the effects ahead of it in the text are done, and no others. -/
theorem RInv.placed (I : RInv P B0 N call ops cops F0 s na φ0 w0 D pe φ ts w HD) (h : Ran P N call ops cops F0 s na K r) {x : Nat} (hx : x < ops.size) (hD : D x = false) (hr : readyP ops D x)
    {o : CO} (ho : cops[x]? = some o) (hl : isLoad o.op = false) (hk : isRead o.op = true ∨ isEff o.op = true) : pe ≤ x ∧ noEff cops pe x := by
  have hs := h.c.size
  have hb : ∀ j, effAt cops j → j < x → D j = true := by
    intro j he hj
    have hc := cover_spec h.c (i := x) (by omega) he
    unfold coverAt at hc
    simp only [getD_some ho, hl, cond_false] at hc
    have : (isRead o.op || isEff o.op) = true := by rcases hk with h | h <;> simp [h]
    rw [this, ble_succ hj] at hc
    exact behind_spec hc I.clo hr
  have ha : ∀ j, effAt cops j → x < j → D j = false := by
    intro j he hj
    have hc := cover_spec h.c (i := x) (by omega) he
    unfold coverAt at hc
    simp only [getD_some ho, hl, cond_false] at hc
    have : (isRead o.op || isEff o.op) = true := by rcases hk with h | h <;> simp [h]
    rw [this, ble_not (by omega), ble_succ hj] at hc
    cases hDj : D j with
    | false => rfl
    | true =>
      have := behind_spec hc I.clo (I.clo j hDj).2
      rw [hD] at this
      cases this
  have hpe : pe ≤ x := by
    rcases I.peEff with h0 | ⟨q, hq, he⟩
    · omega
    · rcases Nat.lt_trichotomy q x with h1 | h1 | h1
      · omega
      · subst h1
        have := (I.eff q he).2 (by omega)
        rw [hD] at this
        cases this
      · have h2 := ha q he h1
        have h3 := (I.eff q he).2 (by omega)
        rw [h2] at h3
        cases h3
  refine ⟨hpe, fun q h1 h2 he => ?_⟩
  have := (I.eff q he).1 (hb q he h2)
  omega

/-- Ahead of an effect: the state of the text's order fits the world. -/
theorem RInv.good (I : RInv P B0 N call ops cops F0 s na φ0 w0 D pe φ ts w HD) (h : Ran P N call ops cops F0 s na K r) {x : Nat} (hx : x ≤ cops.length) (h1 : pe ≤ x) (h2 : noEff cops pe x) :
    Good P B0 φ (sq call cops F0 s na x).2 w := by
  obtain ⟨b1, b2, b3, b4⟩ := h.between x h1 hx h2
  have hwm := h.wm
  have hn := I.nxt
  refine ⟨I.rel.weakenOn fun i hb => ?_, fun i hi => ?_, by rw [b3, b4, I.wm]; omega, I.B0⟩
  · by_cases hA : ∃ a ob, IsAl call cops F0 s na a i ob ∧ pe ≤ a ∧ a < x
    · obtain ⟨a, ob, k, k1, k2⟩ := hA
      have hDa : D a = true := by
        cases hDa : D a with
        | true => rfl
        | false => exact absurd (I.und a i _ k hDa) hb
      rw [b1 a i ob k k1 k2, I.hdA a i ob k hDa k1]
      exact .inl rfl
    · rw [b2 i (fun a ob k k1 k2 => hA ⟨a, ob, k, k1, k2⟩)]
      by_cases hB : ∃ a ob, IsAl call cops F0 s na a i ob ∧ D a = true ∧ pe ≤ a
      · obtain ⟨a, ob, k, k1, k2⟩ := hB
        rw [I.abs a i ob k k2]
        exact .inr rfl
      · rw [I.hdB i (fun a ob k k1 k2 => hB ⟨a, ob, k, k1, k2⟩)]
        exact .inl rfl
  · rw [b3] at hi
    rw [b2 i (fun a ob k _ _ => by have := k.range h; omega)]
    exact I.fresh i hi

open Classical in
/-- An effect is done. -/
theorem RInv.doE (I : RInv P B0 N call ops cops F0 s na φ0 w0 D pe φ ts w HD) (h : Ran P N call ops cops F0 s na K r) {x : Nat} (hx : x < ops.size) (hD : D x = false) (hr : readyP ops D x)
    (he : effAt cops x) (h1 : pe ≤ x) (h2 : noEff cops pe x) {φ' : Emb} {w' : World} (st : Step P B0 φ (sq call cops F0 s na x).2 w φ' (sq call cops F0 s na (x + 1)).2 w')
    {v' : Value} (hv : V φ' (vq call cops F0 s na x) v') :
    ∃ HD', RInv P B0 N call ops cops F0 s na φ0 w0 (setD D x) (x + 1) φ' ((⟨ts, []⟩ : Act).put (ops.getD x default).dst v').tmps w' HD' := by
  have hs := h.c.size
  have hxl : x < cops.length := by omega
  obtain ⟨b1, b2, b3, b4⟩ := h.between x h1 (by omega) h2
  have hwm := h.wm
  have hn := I.nxt
  have hnx : ∀ {i : Nat}, i < s.next + na → i < (sq call cops F0 s na x).2.next := fun hi => by rw [b3]; omega
  have noal : ∀ a i ob, IsAl call cops F0 s na a i ob → a ≠ x := by
    rintro a i ob k rfl
    obtain ⟨o', rk, x', v', ha, ho', _⟩ := k.ex
    obtain ⟨o, e1, e2⟩ := he
    rw [ha] at e1
    cases e1
    rw [ho'] at e2
    cases e2
  -- what the state ahead of x holds where a block is not made yet
  have later : ∀ a i ob, IsAl call cops F0 s na a i ob → x < a → (sq call cops F0 s na x).2.get i = none := by
    intro a i ob k hax
    rw [b2 i (fun a' ob' k' k1 k2 => by have := (k.inj h k').1; omega)]
    exact I.abs a i ob k (by omega)
  have old : ∀ i, i < s.next → (sq call cops F0 s na x).2.get i = (sq call cops F0 s na pe).2.get i := fun i hi =>
    b2 i (fun a ob k _ _ => by have := k.range h; omega)
  let A : Nat → Prop := fun i => ∃ a ob, IsAl call cops F0 s na a i ob ∧ D a = true ∧ x < a
  let HD' : Get := fun i => if A i then HD i else (sq call cops F0 s na (x + 1)).2.get i
  obtain ⟨rel', tr'⟩ := Rel.frame (HD' := HD') A I.rel st
    (fun i hAi => by
      obtain ⟨a, ob, k, k1, k2⟩ := hAi
      obtain ⟨k3, k4, _⟩ := k.range h
      refine ⟨hnx k4, by rw [b4, I.wm]; omega, later a i ob k k2, if_pos ⟨a, ob, k, k1, k2⟩⟩)
    (fun i hAi => if_neg hAi)
    (fun i hAi hb => by
      by_cases hB : ∃ a ob, IsAl call cops F0 s na a i ob ∧ pe ≤ a ∧ a < x
      · obtain ⟨a, ob, k, k1, k2⟩ := hB
        have hDa : D a = true := by
          cases hDa : D a with
          | true => rfl
          | false => exact absurd (I.und a i _ k hDa) hb
        rw [b1 a i ob k k1 k2, I.hdA a i ob k hDa k1]
      · rw [b2 i (fun a ob k k1 k2 => hB ⟨a, ob, k, k1, k2⟩)]
        refine I.hdB i (fun a ob k k1 k2 => ?_)
        rcases Nat.lt_trichotomy a x with hax | hax | hax
        · exact hB ⟨a, ob, k, k2, hax⟩
        · exact noal a i ob k hax
        · exact hAi ⟨a, ob, k, k1, hax⟩)
  rw [b4, I.wm] at tr'
  refine ⟨HD', I.clo' hx hr, by omega, fun j hj => ?_, .inr ⟨x, rfl, he⟩, fun t => I.put h hx hD hr st.tr.ext hv t, by rw [putSize]; exact I.size, rel', fun a i ob k hDa hpe => ?_, fun i hi => ?_, fun a i ob k hDa => ?_,
    fun a i ob k hDa hlt => ?_, fun a i ob k hge => ?_, st.good.fresh, by have := st.next; omega, by rw [st.wm, b4]; exact I.wm, st.good.B0, I.tr.trans tr', fun i hi => ?_, fun i hi hg => ?_, fun i hi hb => ?_⟩
  · by_cases hjx : j = x
    · subst hjx; simp [setD_same]
    · rw [setD_ne D hjx, I.eff j hj]
      constructor
      · intro hh; omega
      · intro hh
        rcases Nat.lt_or_ge j pe with h3 | h3
        · exact h3
        · exact (h2 j h3 (by omega) hj).elim
  · have hax := noal a i ob k
    rw [setD_ne D hax] at hDa
    have : A i := ⟨a, ob, k, hDa, by omega⟩
    rw [show HD' i = HD i from if_pos this]
    exact I.hdA a i ob k hDa (by omega)
  · refine if_neg ?_
    rintro ⟨a, ob, k, k1, k2⟩
    exact hi a ob k (by simp [setD, k1]) k2
  · have hax := noal a i ob k
    rw [setD_ne D hax] at hDa
    exact (st.unborn i (hnx (k.range h).2.1) (I.und a i ob k hDa)).1
  · have hax := noal a i ob k
    rw [setD_ne D hax] at hDa
    rw [(st.unborn i (hnx (k.range h).2.1) (I.und a i ob k hDa)).2]
    rcases Nat.lt_or_ge a pe with h3 | h3
    · rw [b2 i (fun a' ob' k' k1 k2 => by have := (k.inj h k').1; omega)]
      exact I.born a i ob k hDa h3
    · exact b1 a i ob k h3 (by omega)
  · exact st.absent i (hnx (k.range h).2.1) (later a i ob k (by omega))
  · rw [st.low i (by rw [b4, I.wm]; exact hi), old i (by omega)]
    exact I.low i hi
  · exact st.absent i (by rw [b3]; omega) (by rw [old i hi]; exact I.abs0 i hi hg)
  · obtain ⟨u1, u2⟩ := I.unb0 i hi hb
    obtain ⟨u3, u4⟩ := st.unborn i (by rw [b3]; omega) u1
    exact ⟨u3, by rw [u4, old i hi, u2]⟩
end
end Go.Ev

