/-
  Natural numbers as words, the lowest first.

  The tables of code in which the contracts hold.

  Magnitudes: without noughts at the end, of one word, held against each other.

  Magnitudes: sums.

  The package bits, as far as it is written in Go.

  Magnitudes: length, differences, products.

  Magnitudes: products.
-/
import Derived.Test.YtnmaachmjnmlmaaGreatCa
import Derived.Test.YtnmaachmjnmlmaaGreatFo
set_option linter.unusedVariables false
set_option linter.unusedSimpArgs false
set_option linter.unusedSectionVars false
namespace Go.Iso

abbrev β : Nat := 18446744073709551616

def val : List Nat → Nat
  | [] => 0
  | w :: ws => w + 18446744073709551616 * val ws
def Wd (ws : List Nat) : Prop := ∀ w ∈ ws, w < 18446744073709551616

def wordsF : Nat → Nat → List Nat
  | 0, _ => []
  | f + 1, n => if n = 0 then [] else n % 18446744073709551616 :: wordsF f (n / 18446744073709551616)
/-- The words of a number, none of them nought at the end. -/
def words (n : Nat) : List Nat := wordsF n n

theorem wordsF_eq : ∀ (f g n : Nat), n ≤ f → n ≤ g → wordsF f n = wordsF g n
  | 0, 0, n, _, _ => rfl
  | 0, g + 1, n, h, _ => by
    have : n = 0 := by omega
    subst this; rfl
  | f + 1, 0, n, _, h => by
    have : n = 0 := by omega
    subst this; rfl
  | f + 1, g + 1, n, h1, h2 => by
    simp only [wordsF]
    by_cases h : n = 0
    · rw [if_pos h, if_pos h]
    · rw [if_neg h, if_neg h, wordsF_eq f g _ (by omega) (by omega)]
theorem words_zero : words 0 = [] := rfl
theorem words_pos {n : Nat} (h : n ≠ 0) : words n = n % 18446744073709551616 :: words (n / 18446744073709551616) := by
  obtain ⟨m, rfl⟩ : ∃ m, n = m + 1 := ⟨n - 1, by omega⟩
  show wordsF (m + 1) (m + 1) = _
  rw [wordsF, if_neg h]
  congr 1
  exact wordsF_eq _ _ _ (by omega) (Nat.le_refl _)

theorem val_words (n : Nat) : val (words n) = n := by
  induction n using Nat.strongRecOn with
  | _ n ih =>
    by_cases h : n = 0
    · subst h; rfl
    · rw [words_pos h, val, ih _ (by omega)]
      omega
theorem wd_words (n : Nat) : Wd (words n) := by
  induction n using Nat.strongRecOn with
  | _ n ih =>
    by_cases h : n = 0
    · subst h; intro w hw; cases hw
    · rw [words_pos h]
      intro w hw
      rcases List.mem_cons.1 hw with rfl | hw
      · omega
      · exact ih _ (by omega) w hw

theorem Wd.cons {w : Nat} {ws : List Nat} (h : Wd (w :: ws)) : w < 18446744073709551616 ∧ Wd ws := ⟨h w List.mem_cons_self, fun x hx => h x (List.mem_cons_of_mem _ hx)⟩
theorem Wd.mk {w : Nat} {ws : List Nat} (h : w < 18446744073709551616) (k : Wd ws) : Wd (w :: ws) := fun x hx => by
  rcases List.mem_cons.1 hx with rfl | hx
  · exact h
  · exact k x hx
theorem Wd.nil : Wd [] := fun _ h => by cases h
theorem Wd.take {ws : List Nat} (h : Wd ws) (n : Nat) : Wd (ws.take n) := fun x hx => h x (List.mem_of_mem_take hx)
theorem Wd.drop {ws : List Nat} (h : Wd ws) (n : Nat) : Wd (ws.drop n) := fun x hx => h x (List.mem_of_mem_drop hx)
theorem Wd.append {a b : List Nat} (h : Wd a) (k : Wd b) : Wd (a ++ b) := fun x hx => by
  rcases List.mem_append.1 hx with hx | hx
  · exact h x hx
  · exact k x hx
theorem Wd.at {ws : List Nat} (h : Wd ws) (i : Nat) : ws.getD i 0 < 18446744073709551616 := by
  by_cases hi : i < ws.length
  · have : ws.getD i 0 = ws[i] := by simp [List.getD, hi]
    rw [this]; exact h _ (List.getElem_mem hi)
  · simp [List.getD, List.getElem?_eq_none (Nat.le_of_not_lt hi)]

theorem val_append : ∀ (a b : List Nat), val (a ++ b) = val a + 18446744073709551616 ^ a.length * val b
  | [], b => by simp [val]
  | w :: a, b => by
    simp only [List.cons_append, val, val_append a b, List.length_cons, Nat.pow_succ, Nat.mul_add]
    rw [Nat.mul_comm (18446744073709551616 ^ a.length) 18446744073709551616, Nat.mul_assoc]
    omega
theorem val_lt : ∀ {ws : List Nat}, Wd ws → val ws < 18446744073709551616 ^ ws.length
  | [], _ => by simp [val]
  | w :: ws, h => by
    obtain ⟨h1, h2⟩ := h.cons
    have := val_lt h2
    simp only [val, List.length_cons, Nat.pow_succ]
    generalize 18446744073709551616 ^ ws.length = p at *
    omega
theorem val_replicate : ∀ n, val (List.replicate n 0) = 0
  | 0 => rfl
  | n + 1 => by simp [List.replicate_succ, val, val_replicate n]

/-- The words of a row whose last one is not nought. -/
theorem words_val : ∀ {ws : List Nat}, Wd ws → (ws = [] ∨ ws.getLastD 0 ≠ 0) → words (val ws) = ws
  | [], _, _ => rfl
  | [w], h, hl => by
    have hw : w ≠ 0 := by simpa using hl
    have := h.cons.1
    simp only [val, Nat.mul_zero, Nat.add_zero]
    rw [words_pos hw, Nat.mod_eq_of_lt this, Nat.div_eq_of_lt this]
    rfl
  | w :: u :: ws, h, hl => by
    obtain ⟨h1, h2⟩ := h.cons
    have ih := words_val h2 (.inr (by
      rcases hl with hl | hl
      · cases hl
      · simpa [List.getLastD] using hl))
    have hpos : val (u :: ws) ≠ 0 := by
      intro h0
      rw [h0] at ih
      cases ih
    have e : val (w :: u :: ws) = w + 18446744073709551616 * val (u :: ws) := rfl
    rw [e, words_pos (by omega)]
    have e1 : (w + 18446744073709551616 * val (u :: ws)) % 18446744073709551616 = w := by omega
    have e2 : (w + 18446744073709551616 * val (u :: ws)) / 18446744073709551616 = val (u :: ws) := by omega
    rw [e1, e2, ih]

theorem words_last (n : Nat) : words n = [] ∨ (words n).getLastD 0 ≠ 0 := by
  induction n using Nat.strongRecOn with
  | _ n ih =>
    by_cases h : n = 0
    · subst h; exact .inl rfl
    · right
      rw [words_pos h]
      rcases ih (n / 18446744073709551616) (by omega) with h1 | h1
      · have h0 : n / 18446744073709551616 = 0 := by
          have := val_words (n / 18446744073709551616)
          rw [h1] at this
          exact this.symm
        rw [h1]
        simp
        omega
      · cases hw : words (n / 18446744073709551616) with
        | nil => rw [hw] at h1; simp at h1
        | cons x xs => rw [hw] at h1; simpa [List.getLastD] using h1

/-- How many words a number has. -/
def wsz (n : Nat) : Nat := (words n).length
theorem wsz_zero : wsz 0 = 0 := rfl
theorem lt_wsz (n : Nat) : n < 18446744073709551616 ^ wsz n := by
  have := val_lt (wd_words n)
  rwa [val_words] at this
theorem wsz_le {n k : Nat} (h : n < 18446744073709551616 ^ k) : wsz n ≤ k := by
  induction k generalizing n with
  | zero =>
    have : n = 0 := by simp at h; omega
    subst this; exact Nat.le_refl _
  | succ k ih =>
    by_cases h0 : n = 0
    · subst h0; rw [wsz_zero]; omega
    · have : n / 18446744073709551616 < 18446744073709551616 ^ k := by
        rw [Nat.pow_succ] at h
        exact Nat.div_lt_of_lt_mul (by rw [Nat.mul_comm]; exact h)
      have h1 := ih this
      unfold wsz at *
      rw [words_pos h0, List.length_cons]
      omega
theorem wsz_mono {a b : Nat} (h : a ≤ b) : wsz a ≤ wsz b := wsz_le (Nat.lt_of_le_of_lt h (lt_wsz b))
theorem wsz_add (a b : Nat) : wsz (a + b) ≤ max (wsz a) (wsz b) + 1 := by
  refine wsz_le ?_
  have h1 := lt_wsz a
  have h2 := lt_wsz b
  have h3 : 18446744073709551616 ^ wsz a ≤ 18446744073709551616 ^ max (wsz a) (wsz b) := Nat.pow_le_pow_right (by omega) (by omega)
  have h4 : 18446744073709551616 ^ wsz b ≤ 18446744073709551616 ^ max (wsz a) (wsz b) := Nat.pow_le_pow_right (by omega) (by omega)
  rw [Nat.pow_succ]
  generalize 18446744073709551616 ^ max (wsz a) (wsz b) = p at *
  omega
theorem wsz_mul (a b : Nat) : wsz (a * b) ≤ wsz a + wsz b := by
  refine wsz_le ?_
  rw [Nat.pow_add]
  exact Nat.mul_lt_mul'' (lt_wsz a) (lt_wsz b)
theorem wsz_one {a : Nat} (h : a < 18446744073709551616) : wsz a ≤ 1 := wsz_le (by simpa using h)
theorem wsz_pos {a : Nat} (h : a ≠ 0) : 1 ≤ wsz a := by
  unfold wsz; rw [words_pos h]; simp
theorem wsz_eq_zero {a : Nat} : wsz a = 0 ↔ a = 0 := by
  constructor
  · intro h
    rcases Nat.eq_zero_or_pos a with h0 | h0
    · exact h0
    · have := wsz_pos (a := a) (by omega); omega
  · rintro rfl; rfl
theorem wsz_val {ws : List Nat} (h : Wd ws) : wsz (val ws) ≤ ws.length := wsz_le (val_lt h)

/-- What is left of a row without its noughts at the end. -/
theorem val_take_succ {ws : List Nat} {m : Nat} (hm : m < ws.length) : val (ws.take (m + 1)) = val (ws.take m) + 18446744073709551616 ^ m * ws.getD m 0 := by
  rw [List.take_succ_eq_append_getElem hm, val_append]
  have : (ws.take m).length = m := by rw [List.length_take]; omega
  rw [this]
  simp [val, List.getD, hm]

theorem getLastD_take {ws : List Nat} {m : Nat} (hm : m < ws.length) : (ws.take (m + 1)).getLastD 0 = ws.getD m 0 := by
  rw [List.take_succ_eq_append_getElem hm, List.getLastD_concat]
  simp [List.getD, hm]

/-- Words from the i-th on, the same: the i-th decides. -/
theorem val_split {ws : List Nat} {i : Nat} (hi : i < ws.length) : val ws = val (ws.take i) + 18446744073709551616 ^ i * (ws.getD i 0 + 18446744073709551616 * val (ws.drop (i + 1))) := by
  have e1 : ws = ws.take i ++ (ws.getD i 0 :: ws.drop (i + 1)) := by
    have : ws.drop i = ws.getD i 0 :: ws.drop (i + 1) := by
      rw [List.drop_eq_getElem_cons hi]
      simp [List.getD, hi]
    rw [← this, List.take_append_drop]
  conv => lhs; rw [e1]
  rw [val_append]
  have : (ws.take i).length = i := by rw [List.length_take]; omega
  rw [this]
  rfl
theorem val_lt_of {a b : List Nat} (ha : Wd a) (hb : Wd b) {i : Nat} (h1 : i < a.length) (h2 : i < b.length) (h3 : a.drop (i + 1) = b.drop (i + 1)) (h4 : a.getD i 0 < b.getD i 0) : val a < val b := by
  rw [val_split h1, val_split h2, h3]
  have hl := val_lt (ha.take i)
  have : (a.take i).length = i := by rw [List.length_take]; omega
  rw [this] at hl
  generalize val (b.drop (i + 1)) = q
  generalize val (b.take i) = r
  have h5 : 18446744073709551616 ^ i * (a.getD i 0 + 18446744073709551616 * q) + 18446744073709551616 ^ i ≤ 18446744073709551616 ^ i * (b.getD i 0 + 18446744073709551616 * q) := by
    rw [← Nat.mul_succ]
    exact Nat.mul_le_mul_left _ (by omega)
  omega
/-- A row, but for the noughts at its end. -/
theorem take_words : ∀ {ws : List Nat}, Wd ws → ws.take (wsz (val ws)) = words (val ws)
  | [], _ => rfl
  | w :: ws, h => by
    obtain ⟨h1, h2⟩ := h.cons
    have ih := take_words h2
    by_cases h0 : val (w :: ws) = 0
    · rw [h0]; rfl
    · have e : val (w :: ws) = w + 18446744073709551616 * val ws := rfl
      have e1 : (w + 18446744073709551616 * val ws) % 18446744073709551616 = w := by omega
      have e2 : (w + 18446744073709551616 * val ws) / 18446744073709551616 = val ws := by omega
      unfold wsz at *
      rw [words_pos h0, e, e1, e2, List.length_cons, List.take_succ_cons, ih]
theorem lt_of_wsz {a b : Nat} (h : wsz a < wsz b) : a < b := by
  rcases Nat.lt_or_ge a b with h1 | h1
  · exact h1
  · have := wsz_mono h1; omega
end Go.Iso

namespace Go.Iso
open Go.Ev
/-- A table that has these functions. -/
class Arith (prog : outParam (Nat → Option CDecl)) : Prop where
  p_add64 : prog n_bits_Add64 = some .add64
  p_sub64 : prog n_bits_Sub64 = some .sub64
  p_right : prog n_mag_right = some (.fn c_mag_right)
  p_Of : prog n_mag_Of = some (.fn c_mag_Of)
  p_Cmp : prog n_mag_Cmp = some (.fn c_mag_Cmp)
  p_Add : prog n_mag_Add = some (.fn c_mag_Add)
  p_Mul64 : prog n_bits_Mul64 = some (.fn c_bits_Mul64)
  p_Len64 : prog n_bits_Len64 = some (.fn c_bits_Len64)
  p_Div64 : prog n_bits_Div64 = some (.fn c_bits_Div64)
  p_Len : prog n_mag_Len = some (.fn c_mag_Len)
  p_Sub : prog n_mag_Sub = some (.fn c_mag_Sub)
  p_Mul : prog n_mag_Mul = some (.fn c_mag_Mul)
  p_word : prog n_mag_word = some (.fn c_mag_word)
  p_Div : prog n_mag_Div = some (.fn c_mag_Div)
  p_Gcd : prog n_mag_Gcd = some (.fn c_mag_Gcd)
  p_nMake : prog n_num_Make = some (.fn c_num_Make)
  p_nOf : prog n_num_Of = some (.fn c_num_Of)
  p_nSign : prog n_num_Sign = some (.fn c_num_Sign)
  p_nCmp : prog n_num_Cmp = some (.fn c_num_Cmp)
  p_nNeg : prog n_num_Neg = some (.fn c_num_Neg)
  p_nAdd : prog n_num_Add = some (.fn c_num_Add)
  p_nMul : prog n_num_Mul = some (.fn c_num_Mul)
  p_one : prog n_frac_one = some (.fn c_frac_one)
  p_den : prog n_frac_den = some (.fn c_frac_den)
  p_lone : prog n_frac_lone = some (.fn c_frac_lone)
  p_below : prog n_frac_below = some (.fn c_frac_below)
  p_low : prog n_frac_low = some (.fn c_frac_low)
  p_Whole : prog n_frac_Whole = some (.fn c_frac_Whole)
  p_fOf : prog n_frac_Of = some (.fn c_frac_Of)
  p_fMake : prog n_frac_Make = some (.fn c_frac_Make)
  p_fSign : prog n_frac_Sign = some (.fn c_frac_Sign)
  p_fCmp : prog n_frac_Cmp = some (.fn c_frac_Cmp)
  p_fSame : prog n_frac_Same = some (.fn c_frac_Same)
  p_sSame : prog n_spot_Same = some (.fn c_spot_Same)
  p_Tame1 : prog n_l07_Tame_1 = some (.fn c_l07_Tame_1)
  p_Tame : prog n_l07_Tame = some (.fn c_l07_Tame)
  p_Thin : prog n_chain_Thin = some (.fn c_chain_Thin)
  p_law : prog n_l20_ChainThins = some (.fn c_l20_ChainThins)
end Go.Iso

namespace Go.Iso
open Go.Ev
variable {prog : Nat → Option CDecl} [A : Arith prog]

@[reducible] def fv (n : Nat) : Value := .func (.func n) ⟨[]⟩ ⟨[]⟩
abbrev u64 (w : Nat) : Value := .int .u64 (w : Int)
abbrev i64 (n : Int) : Value := .int .i64 n
/-- Words, as a row of cells. -/
def W (ws : List Nat) : List (List Value) := ws.map fun w => [u64 w]
theorem W_len (ws : List Nat) : (W ws).length = ws.length := by simp [W]
theorem W_at {ws : List Nat} {i : Nat} (h : i < ws.length) : ((W ws).getD i []).getD 0 undf = u64 (ws.getD i 0) := by
  simp [W, List.getD, h]
theorem W_take (ws : List Nat) (n : Nat) : (W ws).take n = W (ws.take n) := by simp [W, List.map_take]
theorem W_drop (ws : List Nat) (n : Nat) : (W ws).drop n = W (ws.drop n) := by simp [W, List.map_drop]
theorem W_cells {ws : List Nat} : ∀ e ∈ W ws, ∀ c ∈ e, oneCell c = true ∧ Stl 1 c := by
  intro e he c hc
  obtain ⟨w, _, rfl⟩ := List.mem_map.1 he
  rcases List.mem_singleton.1 hc with rfl
  exact ⟨rfl, stl_int _ _⟩
theorem W_flat (ws : List Nat) : (W ws).flatten = ws.map u64 := by
  induction ws with
  | nil => rfl
  | cons w ws ih =>
    show [u64 w] ++ (W ws).flatten = _
    rw [ih]; rfl

/-- A row of words that the callers hand in. -/
structure MagV (s : St) (v : Value) (ws : List Nat) : Prop where
  row : RowL s 1 v (W ws)
  wd : Wd ws
  len : ws.length ≤ 1099511627776
theorem MagV.later {s s' : St} {v : Value} {ws : List Nat} (h : MagV s v ws) (hl : Later s s') : MagV s' v ws := ⟨h.row.later hl, h.wd, h.len⟩
/-- A number's words, whatever memory holds. -/
structure IsMag (v : Value) (n : Nat) : Prop where
  im : Im 1 v (W (words n))
  stl : Stl 3 v
  one : oneCell v = true
theorem IsMag.mag {v : Value} {n : Nat} (h : IsMag v n) (s : St) (hn : wsz n ≤ 1099511627776) : MagV s v (words n) := ⟨h.im.rowL, wd_words n, hn⟩

theorem p_right : prog n_mag_right = some (.fn c_mag_right) := A.p_right
theorem p_Of : prog n_mag_Of = some (.fn c_mag_Of) := A.p_Of
theorem p_Cmp : prog n_mag_Cmp = some (.fn c_mag_Cmp) := A.p_Cmp

theorem right_loop {s s0 : St} {v : Value} {ws : List Nat} (h : MagV s v ws) (hL : Later s s0) {k : List KItem} {Q : Ex → Fr → St → Prop}
    (hexit : contK prog (upd (upd (fun _ => unk) 14 (.bool false)) 0 (sub 1 v 0 (wsz (val ws)))) s0 k Q) :
    loopK prog [0] c_mag_right_lp0 (upd (fun _ => unk) 0 v) s0 (.blk 0 :: k) Q := by
  have hbig := h.len
  have hfull := h.row.row.subFull
  rw [W_len] at hfull
  suffices key : ∀ m, m ≤ ws.length → val (ws.take m) = val ws → loopK prog [0] c_mag_right_lp0 (upd (fun _ => unk) 0 (sub 1 v 0 m)) s0 (.blk 0 :: k) Q by
    have := key ws.length (Nat.le_refl _) (by rw [List.take_length])
    rwa [hfull] at this
  intro m
  induction m with
  | zero =>
    intro hm hv
    have hr := (h.row.sub (l := 0) (m := 0) (Nat.le_refl _) (by rw [W_len]; omega)) s0 hL
    have h0 : wsz (val ws) = 0 := by rw [← hv]; rfl
    rw [h0] at hexit
    have hlen : opLen (sub 1 v 0 0) = some (.int .i64 0) := hr.len
    refine loopK.stepAs c_mag_right_lp0.eq_1 ?_
    simp only [k_skip, k_seq, k_cond, k_block, k_loop, k_range, k_exit, k_scope, k_ret, k_region, c_nil, c_seq, c_blk, c_lp, e_nil, e_seq, e_blk, e_lp, r_nil, r_seq, r_blk, r_lp, o_nil, o_p, o_pg, o_l, o_a, o_c, o_cg, o_store, o_mapU, o_app, o_copy, o_del, evP, evA, ev_tmp, ev_const, ev_func, evArgs_nil, evArgs_cons, evParts_nil, evParts_cons, evOpt_none, evOpt_some, putO_some, putO_none, restrict_cons, restrict_nil, argFr_cons, argFr_nil, upd_app, Nat.reduceAdd, Nat.reduceEqDiff, Nat.zero_add, Nat.add_zero, bump_zero, St.bump_next, St.put_next, decide_eq_true_eq, condK_bool, stepP_some, stepA_some, stepE_some, stepE_pend, grdK_bool, grdK_undf, opPick_dec, opPick_true, opPick_false, bin_eql, bin_neq, bin_lss, bin_leq, bin_gtr, bin_geq, bin_add64, bin_sub64, bin_mul64, pendOk_nil, passed_nil, n_add, n_mul, n_and, bin_and32, bin_shr32, conv_nat, un_not, conv_64, decide_true, decide_false, true_implies, false_implies, forall_const, and_true, true_and, eq_self, ne_eq, ↓reduceIte, implies_true, Int.reduceLT, Int.reduceGT, Int.reduceLE, Int.reduceEq, Int.reduceNeg, and_self, Bool.not_eq_true, end_ret, end_nrm, endK_some, res_nil, res_tmp, res_cell1, res_cellN, resVal_one, resVal_none, resVal_two, Option.map_some, Option.bind_some, opExtract_eq, List.getElem?_cons_zero, List.getElem?_cons_succ, opNil_ptr, fld_ptr, Nat.mul_one, kbb, hlen]
    exact hexit
  | succ m ih =>
    intro hm hv
    have hr := (h.row.sub (l := 0) (m := m + 1) (by omega) (by rw [W_len]; omega)) s0 hL
    rw [List.drop_zero, W_take] at hr
    have hl : (W (ws.take (m + 1))).length = m + 1 := by rw [W_len, List.length_take]; omega
    have hlen := hr.len
    rw [hl] at hlen
    have hg : ((m + 1 : Nat) : Int) > 0 := by omega
    have ht : (((m + 1 : Nat) : Int) - 1).toNat = m := by omega
    have hw : ((W (ws.take (m + 1))).getD m []).getD 0 undf = u64 (ws.getD m 0) := by
      rw [W_at (by rw [List.length_take]; omega)]
      simp [List.getD, List.getElem?_take]
    have hss : sub 1 (sub 1 v 0 (m + 1)) 0 m = sub 1 v 0 m := by
      have := sub_sub h.row.row (l := 0) (m := m + 1) (l' := 0) (m' := m) (by omega) (by rw [W_len]; omega) (by omega) (by omega)
      simpa using this
    refine loopK.stepAs c_mag_right_lp0.eq_1 ?_
    simp (disch := omega) only [k_skip, k_seq, k_cond, k_block, k_loop, k_range, k_exit, k_scope, k_ret, k_region, c_nil, c_seq, c_blk, c_lp, e_nil, e_seq, e_blk, e_lp, r_nil, r_seq, r_blk, r_lp, o_nil, o_p, o_pg, o_l, o_a, o_c, o_cg, o_store, o_mapU, o_app, o_copy, o_del, evP, evA, ev_tmp, ev_const, ev_func, evArgs_nil, evArgs_cons, evParts_nil, evParts_cons, evOpt_none, evOpt_some, putO_some, putO_none, restrict_cons, restrict_nil, argFr_cons, argFr_nil, upd_app, Nat.reduceAdd, Nat.reduceEqDiff, Nat.zero_add, Nat.add_zero, bump_zero, St.bump_next, St.put_next, decide_eq_true_eq, condK_bool, stepP_some, stepA_some, stepE_some, stepE_pend, grdK_bool, grdK_undf, opPick_dec, opPick_true, opPick_false, bin_eql, bin_neq, bin_lss, bin_leq, bin_gtr, bin_geq, bin_add64, bin_sub64, bin_mul64, pendOk_nil, passed_nil, n_add, n_mul, n_and, bin_and32, bin_shr32, conv_nat, un_not, conv_64, decide_true, decide_false, true_implies, false_implies, forall_const, and_true, true_and, eq_self, ne_eq, ↓reduceIte, implies_true, Int.reduceLT, Int.reduceGT, Int.reduceLE, Int.reduceEq, Int.reduceNeg, and_self, Bool.not_eq_true, end_ret, end_nrm, endK_some, res_nil, res_tmp, res_cell1, res_cellN, resVal_one, resVal_none, resVal_two, Option.map_some, Option.bind_some, opExtract_eq, List.getElem?_cons_zero, List.getElem?_cons_succ, opNil_ptr, fld_ptr, Nat.mul_one, kbb, hlen, hg, hr.addr, ht, hr.load0, hw, hr.sliceHi, hss]
    split
    · rename_i h0
      have h0 : ws.getD m 0 = 0 := by omega
      refine ih (by omega) ?_
      rw [val_take_succ (by omega), h0] at hv
      simpa using hv
    · rename_i h0
      have h1 : wsz (val ws) = m + 1 := by
        rw [← hv]
        unfold wsz
        rw [words_val (h.wd.take _) (.inr (by rw [getLastD_take (by omega)]; omega)), List.length_take]
        omega
      rw [decide_eq_false h0, ← h1]
      exact hexit

theorem right_ret {s : St} {v : Value} {ws : List Nat} (h : MagV s v ws) : Ret prog (fv n_mag_right) [v] s (sub 1 v 0 (wsz (val ws))) s := by
  suffices hh : ∃ v', Ret prog (fv n_mag_right) [v] s v' s ∧ v' = sub 1 v 0 (wsz (val ws)) by
    obtain ⟨v', h1, rfl⟩ := hh; exact h1
  refine ret_pure p_right rfl (by simp [c_mag_right]) fun s0 hs0 => ?_
  have hL : Later s s0 := by subst hs0; exact Later.callee s
  have hz := wsz_val h.wd
  have hst := RowL.stays (h.row.sub (l := 0) (m := wsz (val ws)) (by omega) (by rw [W_len]; omega)) hL (d := 1) (f := 8) (by rw [List.drop_zero, W_take]; exact W_cells) (by omega)
  simp only [c_mag_right, k_skip, k_seq, k_cond, k_block, k_loop, k_range, k_exit, k_scope, k_ret, k_region, c_nil, c_seq, c_blk, c_lp, e_nil, e_seq, e_blk, e_lp, r_nil, r_seq, r_blk, r_lp, o_nil, o_p, o_pg, o_l, o_a, o_c, o_cg, o_store, o_mapU, o_app, o_copy, o_del, evP, evA, ev_tmp, ev_const, ev_func, evArgs_nil, evArgs_cons, evParts_nil, evParts_cons, evOpt_none, evOpt_some, putO_some, putO_none, restrict_cons, restrict_nil, argFr_cons, argFr_nil, upd_app, Nat.reduceAdd, Nat.reduceEqDiff, Nat.zero_add, Nat.add_zero, bump_zero, St.bump_next, St.put_next, decide_eq_true_eq, condK_bool, stepP_some, stepA_some, stepE_some, stepE_pend, grdK_bool, grdK_undf, opPick_dec, opPick_true, opPick_false, bin_eql, bin_neq, bin_lss, bin_leq, bin_gtr, bin_geq, bin_add64, bin_sub64, bin_mul64, pendOk_nil, passed_nil, n_add, n_mul, n_and, bin_and32, bin_shr32, conv_nat, un_not, conv_64, decide_true, decide_false, true_implies, false_implies, forall_const, and_true, true_and, eq_self, ne_eq, ↓reduceIte, implies_true, Int.reduceLT, Int.reduceGT, Int.reduceLE, Int.reduceEq, Int.reduceNeg, and_self, Bool.not_eq_true, end_ret, end_nrm, endK_some, res_nil, res_tmp, res_cell1, res_cellN, resVal_one, resVal_none, resVal_two, Option.map_some, Option.bind_some, opExtract_eq, List.getElem?_cons_zero, List.getElem?_cons_succ, opNil_ptr, fld_ptr, Nat.mul_one, kbb]
  refine right_loop h hL ?_
  simp only [k_skip, k_seq, k_cond, k_block, k_loop, k_range, k_exit, k_scope, k_ret, k_region, c_nil, c_seq, c_blk, c_lp, e_nil, e_seq, e_blk, e_lp, r_nil, r_seq, r_blk, r_lp, o_nil, o_p, o_pg, o_l, o_a, o_c, o_cg, o_store, o_mapU, o_app, o_copy, o_del, evP, evA, ev_tmp, ev_const, ev_func, evArgs_nil, evArgs_cons, evParts_nil, evParts_cons, evOpt_none, evOpt_some, putO_some, putO_none, restrict_cons, restrict_nil, argFr_cons, argFr_nil, upd_app, Nat.reduceAdd, Nat.reduceEqDiff, Nat.zero_add, Nat.add_zero, bump_zero, St.bump_next, St.put_next, decide_eq_true_eq, condK_bool, stepP_some, stepA_some, stepE_some, stepE_pend, grdK_bool, grdK_undf, opPick_dec, opPick_true, opPick_false, bin_eql, bin_neq, bin_lss, bin_leq, bin_gtr, bin_geq, bin_add64, bin_sub64, bin_mul64, pendOk_nil, passed_nil, n_add, n_mul, n_and, bin_and32, bin_shr32, conv_nat, un_not, conv_64, decide_true, decide_false, true_implies, false_implies, forall_const, and_true, true_and, eq_self, ne_eq, ↓reduceIte, implies_true, Int.reduceLT, Int.reduceGT, Int.reduceLE, Int.reduceEq, Int.reduceNeg, and_self, Bool.not_eq_true, end_ret, end_nrm, endK_some, res_nil, res_tmp, res_cell1, res_cellN, resVal_one, resVal_none, resVal_two, Option.map_some, Option.bind_some, opExtract_eq, List.getElem?_cons_zero, List.getElem?_cons_succ, opNil_ptr, fld_ptr, Nat.mul_one, kbb]
  exact ⟨_, hst, rfl⟩

theorem callee_fresh {s : St} (h : Fresh s) : Fresh ⟨s.next, s.next, s.heap⟩ := h

theorem W_row {g : Get} {b o : Nat} {ro : Bool} {cs : List Value} {ws : List Nat} (h : g b = some (.cells ro cs)) (hc : o + ws.length ≤ cs.length) (he : (cs.drop o).take ws.length = ws.map u64) :
    Row g 1 (.slice (some ⟨b, o, none⟩) ws.length 1) (W ws) :=
  ⟨by omega, fun e he => by obtain ⟨w, _, rfl⟩ := List.mem_map.1 he; rfl, .inr (.inl ⟨b, o, ro, cs, by rw [W_len], h, by rw [W_len]; omega, by rw [W_flat, W_len, Nat.mul_one, he]⟩)⟩

/-- What is left of a local row, laid down for good. -/
theorem settle_mag {s : St} {base : Nat} {v : Value} {ws : List Nat} (h : Row s.get 1 v (W ws)) (hw : Wd ws) (hl : ∀ a n z, v = .slice (some a) n z → base ≤ a.block) :
    ∃ v', settle s.get base 8 (sub 1 v 0 (wsz (val ws))) = some v' ∧ IsMag v' (val ws) := by
  have hz := wsz_val hw
  have hr := h.sub (l := 0) (m := wsz (val ws)) (by omega) (by rw [W_len]; omega)
  have he : (W ws |>.take (wsz (val ws))) = W (words (val ws)) := by
    rw [W_take]
    congr 1
    exact take_words hw
  rw [List.drop_zero, he] at hr
  obtain ⟨v', h1, ⟨a, n, z, h2, h3, _⟩ | ⟨h2, h3, h4, _⟩⟩ := settle_row (base := base) (d := 1) (f := 8) hr W_cells (by omega)
  · exfalso
    rcases h.is with ⟨rfl, _⟩ | ⟨b, o, ro, cc, rfl, _⟩ | ⟨vs, rfl, _⟩
    · cases h2
    · cases h2
      have := hl _ _ _ rfl
      simp [addA] at h3 this
      omega
    · cases h2
  · exact ⟨v', h1, h2, h3, h4⟩

theorem local_mag {s : St} (hf : Fresh s) {b : Nat} {ws : List Nat} (hg : s.get b = some (.cells false (ws.map u64))) (hw : Wd ws) (hl : ws.length ≤ 1099511627776) :
    MagV s (.slice (some ⟨b, 0, none⟩) ws.length 1) ws :=
  ⟨Row.rowL hf (W_row hg (by simp) (by rw [List.drop_zero, List.take_of_length_le (by simp)])), hw, hl⟩

theorem put_get (s : St) (b : Nat) (o : IObj) : (s.put b o).get b = some o := by rw [St.get_put, if_pos rfl]

theorem Of_ret {s : St} (hf : Fresh s) {n : Nat} (hn : n < 18446744073709551616) : ∃ v, Ret prog (fv n_mag_Of) [u64 n] s v s ∧ IsMag v n := by
  refine ret_pure p_Of rfl (by simp [c_mag_Of]) fun s0 hs0 => ?_
  have hf0 : Fresh s0 := by subst hs0; exact hf
  have hnx : s0.next = s.next := by subst hs0; rfl
  simp only [c_mag_Of, k_skip, k_seq, k_cond, k_block, k_loop, k_range, k_exit, k_scope, k_ret, k_region, c_nil, c_seq, c_blk, c_lp, e_nil, e_seq, e_blk, e_lp, r_nil, r_seq, r_blk, r_lp, o_nil, o_p, o_pg, o_l, o_a, o_c, o_cg, o_store, o_mapU, o_app, o_copy, o_del, evP, evA, ev_tmp, ev_const, ev_func, evArgs_nil, evArgs_cons, evParts_nil, evParts_cons, evOpt_none, evOpt_some, putO_some, putO_none, restrict_cons, restrict_nil, argFr_cons, argFr_nil, upd_app, Nat.reduceAdd, Nat.reduceEqDiff, Nat.zero_add, Nat.add_zero, bump_zero, St.bump_next, St.put_next, decide_eq_true_eq, condK_bool, stepP_some, stepA_some, stepE_some, stepE_pend, grdK_bool, grdK_undf, opPick_dec, opPick_true, opPick_false, bin_eql, bin_neq, bin_lss, bin_leq, bin_gtr, bin_geq, bin_add64, bin_sub64, bin_mul64, pendOk_nil, passed_nil, n_add, n_mul, n_and, bin_and32, bin_shr32, conv_nat, un_not, conv_64, decide_true, decide_false, true_implies, false_implies, forall_const, and_true, true_and, eq_self, ne_eq, ↓reduceIte, implies_true, Int.reduceLT, Int.reduceGT, Int.reduceLE, Int.reduceEq, Int.reduceNeg, and_self, Bool.not_eq_true, end_ret, end_nrm, endK_some, res_nil, res_tmp, res_cell1, res_cellN, resVal_one, resVal_none, resVal_two, Option.map_some, Option.bind_some, opExtract_eq, List.getElem?_cons_zero, List.getElem?_cons_succ, opNil_ptr, fld_ptr, Nat.mul_one, kbb, opBuild_eq, opBuildSlice_eq, opBox_eq, parts_nil, parts_cons, fill_nil, fill_cons, splice_nil, splice_zero, splice_succ, reps_zero, reps_succ, vcells_int, vcells_bool, vcells_ptr, vcells_slice, vcells_map, vcells_agg, one_int, one_bool, one_ptr, one_slice, one_map, List.length_cons, List.length_nil, List.all_cons, List.all_nil, Bool.and_true, Bool.true_and, List.append_nil, List.cons_append, List.nil_append]
  have hm := local_mag (s := (s0.bump 1).put s0.next (.cells false [u64 n])) ((hf0.bump 1).put (by simp)) (b := s0.next) (ws := [n]) (put_get _ _ _) (Wd.mk hn Wd.nil) (by simp)
  refine callK.of0 (right_ret hm) ?_
  simp only [k_skip, k_seq, k_cond, k_block, k_loop, k_range, k_exit, k_scope, k_ret, k_region, c_nil, c_seq, c_blk, c_lp, e_nil, e_seq, e_blk, e_lp, r_nil, r_seq, r_blk, r_lp, o_nil, o_p, o_pg, o_l, o_a, o_c, o_cg, o_store, o_mapU, o_app, o_copy, o_del, evP, evA, ev_tmp, ev_const, ev_func, evArgs_nil, evArgs_cons, evParts_nil, evParts_cons, evOpt_none, evOpt_some, putO_some, putO_none, restrict_cons, restrict_nil, argFr_cons, argFr_nil, upd_app, Nat.reduceAdd, Nat.reduceEqDiff, Nat.zero_add, Nat.add_zero, bump_zero, St.bump_next, St.put_next, decide_eq_true_eq, condK_bool, stepP_some, stepA_some, stepE_some, stepE_pend, grdK_bool, grdK_undf, opPick_dec, opPick_true, opPick_false, bin_eql, bin_neq, bin_lss, bin_leq, bin_gtr, bin_geq, bin_add64, bin_sub64, bin_mul64, pendOk_nil, passed_nil, n_add, n_mul, n_and, bin_and32, bin_shr32, conv_nat, un_not, conv_64, decide_true, decide_false, true_implies, false_implies, forall_const, and_true, true_and, eq_self, ne_eq, ↓reduceIte, implies_true, Int.reduceLT, Int.reduceGT, Int.reduceLE, Int.reduceEq, Int.reduceNeg, and_self, Bool.not_eq_true, end_ret, end_nrm, endK_some, res_nil, res_tmp, res_cell1, res_cellN, resVal_one, resVal_none, resVal_two, Option.map_some, Option.bind_some, opExtract_eq, List.getElem?_cons_zero, List.getElem?_cons_succ, opNil_ptr, fld_ptr, Nat.mul_one, kbb]
  have := settle_mag (base := s.next) hm.row.row hm.wd (by intro a n z h; cases h; simp [hnx])
  have hv : val [n] = n := by simp [val]
  rw [hv] at this
  rw [hv]
  exact this

/-- What 'Cmp' answers. -/
def cmpI (a b : Nat) : Int := if a < b then -1 else if a = b then 0 else 1

theorem Cmp_loop {s0 : St} {a b : Value} {xs ys : List Nat} (ha : Row s0.get 1 a (W xs)) (hb : Row s0.get 1 b (W ys)) (hx : Wd xs) (hy : Wd ys) (hl : xs.length = ys.length) (hbig : xs.length ≤ 1099511627776)
    {k : List KItem} {Q : Ex → Fr → St → Prop}
    (hexit : xs = ys → contK prog (upd (upd (upd (upd (fun _ => unk) 24 (.bool false)) 5 (i64 (-1))) 1 b) 0 a) s0 k Q)
    (hlt : val xs < val ys → retK prog (upd (fun _ => unk) 4 (i64 (-1))) s0 k Q) (hgt : val ys < val xs → retK prog (upd (fun _ => unk) 4 (i64 1)) s0 k Q) :
    ∀ m, m ≤ xs.length → xs.drop m = ys.drop m → loopK prog [0, 1, 5] c_mag_Cmp_lp0 (upd (upd (upd (fun _ => unk) 5 (i64 ((m : Int) - 1))) 1 b) 0 a) s0 (.blk 0 :: k) Q := by
  intro m
  induction m with
  | zero =>
    intro hm he
    refine loopK.stepAs c_mag_Cmp_lp0.eq_1 ?_
    have e : ((0 : Nat) : Int) - 1 = -1 := rfl
    simp only [k_skip, k_seq, k_cond, k_block, k_loop, k_range, k_exit, k_scope, k_ret, k_region, c_nil, c_seq, c_blk, c_lp, e_nil, e_seq, e_blk, e_lp, r_nil, r_seq, r_blk, r_lp, o_nil, o_p, o_pg, o_l, o_a, o_c, o_cg, o_store, o_mapU, o_app, o_copy, o_del, evP, evA, ev_tmp, ev_const, ev_func, evArgs_nil, evArgs_cons, evParts_nil, evParts_cons, evOpt_none, evOpt_some, putO_some, putO_none, restrict_cons, restrict_nil, argFr_cons, argFr_nil, upd_app, Nat.reduceAdd, Nat.reduceEqDiff, Nat.zero_add, Nat.add_zero, bump_zero, St.bump_next, St.put_next, decide_eq_true_eq, condK_bool, stepP_some, stepA_some, stepE_some, stepE_pend, grdK_bool, grdK_undf, opPick_dec, opPick_true, opPick_false, bin_eql, bin_neq, bin_lss, bin_leq, bin_gtr, bin_geq, bin_add64, bin_sub64, bin_mul64, pendOk_nil, passed_nil, n_add, n_mul, n_and, bin_and32, bin_shr32, conv_nat, un_not, conv_64, decide_true, decide_false, true_implies, false_implies, forall_const, and_true, true_and, eq_self, ne_eq, ↓reduceIte, implies_true, Int.reduceLT, Int.reduceGT, Int.reduceLE, Int.reduceEq, Int.reduceNeg, and_self, Bool.not_eq_true, end_ret, end_nrm, endK_some, res_nil, res_tmp, res_cell1, res_cellN, resVal_one, resVal_none, resVal_two, Option.map_some, Option.bind_some, opExtract_eq, List.getElem?_cons_zero, List.getElem?_cons_succ, opNil_ptr, fld_ptr, Nat.mul_one, kbb, e, ge_iff_le]
    exact hexit (by simpa using he)
  | succ m ih =>
    intro hm he
    have hlx := W_len xs
    have hly := W_len ys
    have hg : ((m + 1 : Nat) : Int) - 1 ≥ 0 := by omega
    have ht : (((m + 1 : Nat) : Int) - 1).toNat = m := by omega
    have hxa := W_at (ws := xs) (i := m) (by omega)
    have hya := W_at (ws := ys) (i := m) (by omega)
    have e1 : xs.drop m = xs.getD m 0 :: xs.drop (m + 1) := by
      rw [List.drop_eq_getElem_cons (by omega)]; simp [List.getD, show m < xs.length by omega]
    have e2 : ys.drop m = ys.getD m 0 :: ys.drop (m + 1) := by
      rw [List.drop_eq_getElem_cons (by omega)]; simp [List.getD, show m < ys.length by omega]
    have hm1 : ((m + 1 : Nat) : Int) - 1 = m := by omega
    refine loopK.stepAs c_mag_Cmp_lp0.eq_1 ?_
    rw [hm1]
    have hg : (m : Int) ≥ 0 := by omega
    have ht : (m : Int).toNat = m := by omega
    simp (disch := omega) only [k_skip, k_seq, k_cond, k_block, k_loop, k_range, k_exit, k_scope, k_ret, k_region, c_nil, c_seq, c_blk, c_lp, e_nil, e_seq, e_blk, e_lp, r_nil, r_seq, r_blk, r_lp, o_nil, o_p, o_pg, o_l, o_a, o_c, o_cg, o_store, o_mapU, o_app, o_copy, o_del, evP, evA, ev_tmp, ev_const, ev_func, evArgs_nil, evArgs_cons, evParts_nil, evParts_cons, evOpt_none, evOpt_some, putO_some, putO_none, restrict_cons, restrict_nil, argFr_cons, argFr_nil, upd_app, Nat.reduceAdd, Nat.reduceEqDiff, Nat.zero_add, Nat.add_zero, bump_zero, St.bump_next, St.put_next, decide_eq_true_eq, condK_bool, stepP_some, stepA_some, stepE_some, stepE_pend, grdK_bool, grdK_undf, opPick_dec, opPick_true, opPick_false, bin_eql, bin_neq, bin_lss, bin_leq, bin_gtr, bin_geq, bin_add64, bin_sub64, bin_mul64, pendOk_nil, passed_nil, n_add, n_mul, n_and, bin_and32, bin_shr32, conv_nat, un_not, conv_64, decide_true, decide_false, true_implies, false_implies, forall_const, and_true, true_and, eq_self, ne_eq, ↓reduceIte, implies_true, Int.reduceLT, Int.reduceGT, Int.reduceLE, Int.reduceEq, Int.reduceNeg, and_self, Bool.not_eq_true, end_ret, end_nrm, endK_some, res_nil, res_tmp, res_cell1, res_cellN, resVal_one, resVal_none, resVal_two, Option.map_some, Option.bind_some, opExtract_eq, List.getElem?_cons_zero, List.getElem?_cons_succ, opNil_ptr, fld_ptr, Nat.mul_one, kbb, hg, ha.addr, hb.addr, ht, ha.load0, hb.load0, hxa, hya]
    by_cases hne : xs.getD m 0 = ys.getD m 0
    · have h1 : (xs.getD m 0 : Int) = ys.getD m 0 := by omega
      simp only [h1, k_skip, k_seq, k_cond, k_block, k_loop, k_range, k_exit, k_scope, k_ret, k_region, c_nil, c_seq, c_blk, c_lp, e_nil, e_seq, e_blk, e_lp, r_nil, r_seq, r_blk, r_lp, o_nil, o_p, o_pg, o_l, o_a, o_c, o_cg, o_store, o_mapU, o_app, o_copy, o_del, evP, evA, ev_tmp, ev_const, ev_func, evArgs_nil, evArgs_cons, evParts_nil, evParts_cons, evOpt_none, evOpt_some, putO_some, putO_none, restrict_cons, restrict_nil, argFr_cons, argFr_nil, upd_app, Nat.reduceAdd, Nat.reduceEqDiff, Nat.zero_add, Nat.add_zero, bump_zero, St.bump_next, St.put_next, decide_eq_true_eq, condK_bool, stepP_some, stepA_some, stepE_some, stepE_pend, grdK_bool, grdK_undf, opPick_dec, opPick_true, opPick_false, bin_eql, bin_neq, bin_lss, bin_leq, bin_gtr, bin_geq, bin_add64, bin_sub64, bin_mul64, pendOk_nil, passed_nil, n_add, n_mul, n_and, bin_and32, bin_shr32, conv_nat, un_not, conv_64, decide_true, decide_false, true_implies, false_implies, forall_const, and_true, true_and, eq_self, ne_eq, ↓reduceIte, implies_true, Int.reduceLT, Int.reduceGT, Int.reduceLE, Int.reduceEq, Int.reduceNeg, and_self, Bool.not_eq_true, end_ret, end_nrm, endK_some, res_nil, res_tmp, res_cell1, res_cellN, resVal_one, resVal_none, resVal_two, Option.map_some, Option.bind_some, opExtract_eq, List.getElem?_cons_zero, List.getElem?_cons_succ, opNil_ptr, fld_ptr, Nat.mul_one, kbb]
      exact ih (by omega) (by rw [e1, e2, he, hne])
    · have h1 : ¬ (xs.getD m 0 : Int) = ys.getD m 0 := by omega
      simp only [h1, k_skip, k_seq, k_cond, k_block, k_loop, k_range, k_exit, k_scope, k_ret, k_region, c_nil, c_seq, c_blk, c_lp, e_nil, e_seq, e_blk, e_lp, r_nil, r_seq, r_blk, r_lp, o_nil, o_p, o_pg, o_l, o_a, o_c, o_cg, o_store, o_mapU, o_app, o_copy, o_del, evP, evA, ev_tmp, ev_const, ev_func, evArgs_nil, evArgs_cons, evParts_nil, evParts_cons, evOpt_none, evOpt_some, putO_some, putO_none, restrict_cons, restrict_nil, argFr_cons, argFr_nil, upd_app, Nat.reduceAdd, Nat.reduceEqDiff, Nat.zero_add, Nat.add_zero, bump_zero, St.bump_next, St.put_next, decide_eq_true_eq, condK_bool, stepP_some, stepA_some, stepE_some, stepE_pend, grdK_bool, grdK_undf, opPick_dec, opPick_true, opPick_false, bin_eql, bin_neq, bin_lss, bin_leq, bin_gtr, bin_geq, bin_add64, bin_sub64, bin_mul64, pendOk_nil, passed_nil, n_add, n_mul, n_and, bin_and32, bin_shr32, conv_nat, un_not, conv_64, decide_true, decide_false, true_implies, false_implies, forall_const, and_true, true_and, eq_self, ne_eq, ↓reduceIte, implies_true, Int.reduceLT, Int.reduceGT, Int.reduceLE, Int.reduceEq, Int.reduceNeg, and_self, Bool.not_eq_true, end_ret, end_nrm, endK_some, res_nil, res_tmp, res_cell1, res_cellN, resVal_one, resVal_none, resVal_two, Option.map_some, Option.bind_some, opExtract_eq, List.getElem?_cons_zero, List.getElem?_cons_succ, opNil_ptr, fld_ptr, Nat.mul_one, kbb]
      by_cases hlt' : xs.getD m 0 < ys.getD m 0
      · have h2 : (xs.getD m 0 : Int) < ys.getD m 0 := by omega
        simp only [h2, k_skip, k_seq, k_cond, k_block, k_loop, k_range, k_exit, k_scope, k_ret, k_region, c_nil, c_seq, c_blk, c_lp, e_nil, e_seq, e_blk, e_lp, r_nil, r_seq, r_blk, r_lp, o_nil, o_p, o_pg, o_l, o_a, o_c, o_cg, o_store, o_mapU, o_app, o_copy, o_del, evP, evA, ev_tmp, ev_const, ev_func, evArgs_nil, evArgs_cons, evParts_nil, evParts_cons, evOpt_none, evOpt_some, putO_some, putO_none, restrict_cons, restrict_nil, argFr_cons, argFr_nil, upd_app, Nat.reduceAdd, Nat.reduceEqDiff, Nat.zero_add, Nat.add_zero, bump_zero, St.bump_next, St.put_next, decide_eq_true_eq, condK_bool, stepP_some, stepA_some, stepE_some, stepE_pend, grdK_bool, grdK_undf, opPick_dec, opPick_true, opPick_false, bin_eql, bin_neq, bin_lss, bin_leq, bin_gtr, bin_geq, bin_add64, bin_sub64, bin_mul64, pendOk_nil, passed_nil, n_add, n_mul, n_and, bin_and32, bin_shr32, conv_nat, un_not, conv_64, decide_true, decide_false, true_implies, false_implies, forall_const, and_true, true_and, eq_self, ne_eq, ↓reduceIte, implies_true, Int.reduceLT, Int.reduceGT, Int.reduceLE, Int.reduceEq, Int.reduceNeg, and_self, Bool.not_eq_true, end_ret, end_nrm, endK_some, res_nil, res_tmp, res_cell1, res_cellN, resVal_one, resVal_none, resVal_two, Option.map_some, Option.bind_some, opExtract_eq, List.getElem?_cons_zero, List.getElem?_cons_succ, opNil_ptr, fld_ptr, Nat.mul_one, kbb]
        exact hlt (val_lt_of hx hy (by omega) (by omega) he hlt')
      · have h2 : ¬ ((xs.getD m 0 : Int) < ys.getD m 0) := by omega
        simp only [h2, k_skip, k_seq, k_cond, k_block, k_loop, k_range, k_exit, k_scope, k_ret, k_region, c_nil, c_seq, c_blk, c_lp, e_nil, e_seq, e_blk, e_lp, r_nil, r_seq, r_blk, r_lp, o_nil, o_p, o_pg, o_l, o_a, o_c, o_cg, o_store, o_mapU, o_app, o_copy, o_del, evP, evA, ev_tmp, ev_const, ev_func, evArgs_nil, evArgs_cons, evParts_nil, evParts_cons, evOpt_none, evOpt_some, putO_some, putO_none, restrict_cons, restrict_nil, argFr_cons, argFr_nil, upd_app, Nat.reduceAdd, Nat.reduceEqDiff, Nat.zero_add, Nat.add_zero, bump_zero, St.bump_next, St.put_next, decide_eq_true_eq, condK_bool, stepP_some, stepA_some, stepE_some, stepE_pend, grdK_bool, grdK_undf, opPick_dec, opPick_true, opPick_false, bin_eql, bin_neq, bin_lss, bin_leq, bin_gtr, bin_geq, bin_add64, bin_sub64, bin_mul64, pendOk_nil, passed_nil, n_add, n_mul, n_and, bin_and32, bin_shr32, conv_nat, un_not, conv_64, decide_true, decide_false, true_implies, false_implies, forall_const, and_true, true_and, eq_self, ne_eq, ↓reduceIte, implies_true, Int.reduceLT, Int.reduceGT, Int.reduceLE, Int.reduceEq, Int.reduceNeg, and_self, Bool.not_eq_true, end_ret, end_nrm, endK_some, res_nil, res_tmp, res_cell1, res_cellN, resVal_one, resVal_none, resVal_two, Option.map_some, Option.bind_some, opExtract_eq, List.getElem?_cons_zero, List.getElem?_cons_succ, opNil_ptr, fld_ptr, Nat.mul_one, kbb]
        exact hgt (val_lt_of hy hx (by omega) (by omega) he.symm (by omega))

theorem Cmp_ret {s : St} {a b : Value} {xs ys : List Nat} (ha : MagV s a xs) (hb : MagV s b ys) : Ret prog (fv n_mag_Cmp) [a, b] s (i64 (cmpI (val xs) (val ys))) s := by
  suffices hh : ∃ v', Ret prog (fv n_mag_Cmp) [a, b] s v' s ∧ v' = i64 (cmpI (val xs) (val ys)) by
    obtain ⟨v', h1, rfl⟩ := hh; exact h1
  refine ret_pure p_Cmp rfl (by simp [c_mag_Cmp]) fun s0 hs0 => ?_
  have hL : Later s s0 := by subst hs0; exact Later.callee s
  have hzx := wsz_val ha.wd
  have hzy := wsz_val hb.wd
  have h1 := ha.len
  have h2 := hb.len
  simp only [c_mag_Cmp, k_skip, k_seq, k_cond, k_block, k_loop, k_range, k_exit, k_scope, k_ret, k_region, c_nil, c_seq, c_blk, c_lp, e_nil, e_seq, e_blk, e_lp, r_nil, r_seq, r_blk, r_lp, o_nil, o_p, o_pg, o_l, o_a, o_c, o_cg, o_store, o_mapU, o_app, o_copy, o_del, evP, evA, ev_tmp, ev_const, ev_func, evArgs_nil, evArgs_cons, evParts_nil, evParts_cons, evOpt_none, evOpt_some, putO_some, putO_none, restrict_cons, restrict_nil, argFr_cons, argFr_nil, upd_app, Nat.reduceAdd, Nat.reduceEqDiff, Nat.zero_add, Nat.add_zero, bump_zero, St.bump_next, St.put_next, decide_eq_true_eq, condK_bool, stepP_some, stepA_some, stepE_some, stepE_pend, grdK_bool, grdK_undf, opPick_dec, opPick_true, opPick_false, bin_eql, bin_neq, bin_lss, bin_leq, bin_gtr, bin_geq, bin_add64, bin_sub64, bin_mul64, pendOk_nil, passed_nil, n_add, n_mul, n_and, bin_and32, bin_shr32, conv_nat, un_not, conv_64, decide_true, decide_false, true_implies, false_implies, forall_const, and_true, true_and, eq_self, ne_eq, ↓reduceIte, implies_true, Int.reduceLT, Int.reduceGT, Int.reduceLE, Int.reduceEq, Int.reduceNeg, and_self, Bool.not_eq_true, end_ret, end_nrm, endK_some, res_nil, res_tmp, res_cell1, res_cellN, resVal_one, resVal_none, resVal_two, Option.map_some, Option.bind_some, opExtract_eq, List.getElem?_cons_zero, List.getElem?_cons_succ, opNil_ptr, fld_ptr, Nat.mul_one, kbb]
  refine callK.of0 (right_ret (ha.later hL)) ?_
  simp only [k_skip, k_seq, k_cond, k_block, k_loop, k_range, k_exit, k_scope, k_ret, k_region, c_nil, c_seq, c_blk, c_lp, e_nil, e_seq, e_blk, e_lp, r_nil, r_seq, r_blk, r_lp, o_nil, o_p, o_pg, o_l, o_a, o_c, o_cg, o_store, o_mapU, o_app, o_copy, o_del, evP, evA, ev_tmp, ev_const, ev_func, evArgs_nil, evArgs_cons, evParts_nil, evParts_cons, evOpt_none, evOpt_some, putO_some, putO_none, restrict_cons, restrict_nil, argFr_cons, argFr_nil, upd_app, Nat.reduceAdd, Nat.reduceEqDiff, Nat.zero_add, Nat.add_zero, bump_zero, St.bump_next, St.put_next, decide_eq_true_eq, condK_bool, stepP_some, stepA_some, stepE_some, stepE_pend, grdK_bool, grdK_undf, opPick_dec, opPick_true, opPick_false, bin_eql, bin_neq, bin_lss, bin_leq, bin_gtr, bin_geq, bin_add64, bin_sub64, bin_mul64, pendOk_nil, passed_nil, n_add, n_mul, n_and, bin_and32, bin_shr32, conv_nat, un_not, conv_64, decide_true, decide_false, true_implies, false_implies, forall_const, and_true, true_and, eq_self, ne_eq, ↓reduceIte, implies_true, Int.reduceLT, Int.reduceGT, Int.reduceLE, Int.reduceEq, Int.reduceNeg, and_self, Bool.not_eq_true, end_ret, end_nrm, endK_some, res_nil, res_tmp, res_cell1, res_cellN, resVal_one, resVal_none, resVal_two, Option.map_some, Option.bind_some, opExtract_eq, List.getElem?_cons_zero, List.getElem?_cons_succ, opNil_ptr, fld_ptr, Nat.mul_one, kbb]
  refine callK.of0 (right_ret (hb.later hL)) ?_
  have ra := (ha.row.sub (l := 0) (m := wsz (val xs)) (by omega) (by rw [W_len]; omega)) s0 hL
  have rb := (hb.row.sub (l := 0) (m := wsz (val ys)) (by omega) (by rw [W_len]; omega)) s0 hL
  rw [List.drop_zero, W_take, take_words ha.wd] at ra
  rw [List.drop_zero, W_take, take_words hb.wd] at rb
  generalize sub 1 a 0 (wsz (val xs)) = a' at *
  generalize sub 1 b 0 (wsz (val ys)) = b' at *
  have la := ra.len
  have lb := rb.len
  rw [W_len] at la lb
  have hst : ∀ n : Int, settle s0.get s.next 8 (i64 n) = some (i64 n) := fun n => stl_int _ _ _ _ _ (by omega)
  have hval := fun n => val_words n
  simp only [k_skip, k_seq, k_cond, k_block, k_loop, k_range, k_exit, k_scope, k_ret, k_region, c_nil, c_seq, c_blk, c_lp, e_nil, e_seq, e_blk, e_lp, r_nil, r_seq, r_blk, r_lp, o_nil, o_p, o_pg, o_l, o_a, o_c, o_cg, o_store, o_mapU, o_app, o_copy, o_del, evP, evA, ev_tmp, ev_const, ev_func, evArgs_nil, evArgs_cons, evParts_nil, evParts_cons, evOpt_none, evOpt_some, putO_some, putO_none, restrict_cons, restrict_nil, argFr_cons, argFr_nil, upd_app, Nat.reduceAdd, Nat.reduceEqDiff, Nat.zero_add, Nat.add_zero, bump_zero, St.bump_next, St.put_next, decide_eq_true_eq, condK_bool, stepP_some, stepA_some, stepE_some, stepE_pend, grdK_bool, grdK_undf, opPick_dec, opPick_true, opPick_false, bin_eql, bin_neq, bin_lss, bin_leq, bin_gtr, bin_geq, bin_add64, bin_sub64, bin_mul64, pendOk_nil, passed_nil, n_add, n_mul, n_and, bin_and32, bin_shr32, conv_nat, un_not, conv_64, decide_true, decide_false, true_implies, false_implies, forall_const, and_true, true_and, eq_self, ne_eq, ↓reduceIte, implies_true, Int.reduceLT, Int.reduceGT, Int.reduceLE, Int.reduceEq, Int.reduceNeg, and_self, Bool.not_eq_true, end_ret, end_nrm, endK_some, res_nil, res_tmp, res_cell1, res_cellN, resVal_one, resVal_none, resVal_two, Option.map_some, Option.bind_some, opExtract_eq, List.getElem?_cons_zero, List.getElem?_cons_succ, opNil_ptr, fld_ptr, Nat.mul_one, kbb, la, lb]
  by_cases hne : (words (val xs)).length = (words (val ys)).length
  · have h1 : ((words (val xs)).length : Int) = (words (val ys)).length := by omega
    have h3 : (words (val ys)).length ≤ ys.length := hzy
    simp (disch := omega) only [h1, k_skip, k_seq, k_cond, k_block, k_loop, k_range, k_exit, k_scope, k_ret, k_region, c_nil, c_seq, c_blk, c_lp, e_nil, e_seq, e_blk, e_lp, r_nil, r_seq, r_blk, r_lp, o_nil, o_p, o_pg, o_l, o_a, o_c, o_cg, o_store, o_mapU, o_app, o_copy, o_del, evP, evA, ev_tmp, ev_const, ev_func, evArgs_nil, evArgs_cons, evParts_nil, evParts_cons, evOpt_none, evOpt_some, putO_some, putO_none, restrict_cons, restrict_nil, argFr_cons, argFr_nil, upd_app, Nat.reduceAdd, Nat.reduceEqDiff, Nat.zero_add, Nat.add_zero, bump_zero, St.bump_next, St.put_next, decide_eq_true_eq, condK_bool, stepP_some, stepA_some, stepE_some, stepE_pend, grdK_bool, grdK_undf, opPick_dec, opPick_true, opPick_false, bin_eql, bin_neq, bin_lss, bin_leq, bin_gtr, bin_geq, bin_add64, bin_sub64, bin_mul64, pendOk_nil, passed_nil, n_add, n_mul, n_and, bin_and32, bin_shr32, conv_nat, un_not, conv_64, decide_true, decide_false, true_implies, false_implies, forall_const, and_true, true_and, eq_self, ne_eq, ↓reduceIte, implies_true, Int.reduceLT, Int.reduceGT, Int.reduceLE, Int.reduceEq, Int.reduceNeg, and_self, Bool.not_eq_true, end_ret, end_nrm, endK_some, res_nil, res_tmp, res_cell1, res_cellN, resVal_one, resVal_none, resVal_two, Option.map_some, Option.bind_some, opExtract_eq, List.getElem?_cons_zero, List.getElem?_cons_succ, opNil_ptr, fld_ptr, Nat.mul_one, kbb, la]
    refine Cmp_loop ra rb (wd_words _) (wd_words _) hne (by rw [hne]; omega) ?_ ?_ ?_ (words (val ys)).length (by omega) ?_
    · intro he
      have hv : val xs = val ys := by rw [← val_words (val xs), he, val_words]
      simp only [k_skip, k_seq, k_cond, k_block, k_loop, k_range, k_exit, k_scope, k_ret, k_region, c_nil, c_seq, c_blk, c_lp, e_nil, e_seq, e_blk, e_lp, r_nil, r_seq, r_blk, r_lp, o_nil, o_p, o_pg, o_l, o_a, o_c, o_cg, o_store, o_mapU, o_app, o_copy, o_del, evP, evA, ev_tmp, ev_const, ev_func, evArgs_nil, evArgs_cons, evParts_nil, evParts_cons, evOpt_none, evOpt_some, putO_some, putO_none, restrict_cons, restrict_nil, argFr_cons, argFr_nil, upd_app, Nat.reduceAdd, Nat.reduceEqDiff, Nat.zero_add, Nat.add_zero, bump_zero, St.bump_next, St.put_next, decide_eq_true_eq, condK_bool, stepP_some, stepA_some, stepE_some, stepE_pend, grdK_bool, grdK_undf, opPick_dec, opPick_true, opPick_false, bin_eql, bin_neq, bin_lss, bin_leq, bin_gtr, bin_geq, bin_add64, bin_sub64, bin_mul64, pendOk_nil, passed_nil, n_add, n_mul, n_and, bin_and32, bin_shr32, conv_nat, un_not, conv_64, decide_true, decide_false, true_implies, false_implies, forall_const, and_true, true_and, eq_self, ne_eq, ↓reduceIte, implies_true, Int.reduceLT, Int.reduceGT, Int.reduceLE, Int.reduceEq, Int.reduceNeg, and_self, Bool.not_eq_true, end_ret, end_nrm, endK_some, res_nil, res_tmp, res_cell1, res_cellN, resVal_one, resVal_none, resVal_two, Option.map_some, Option.bind_some, opExtract_eq, List.getElem?_cons_zero, List.getElem?_cons_succ, opNil_ptr, fld_ptr, Nat.mul_one, kbb]
      exact ⟨_, hst _, by simp [cmpI, hv]⟩
    · intro hv
      rw [val_words, val_words] at hv
      simp only [k_skip, k_seq, k_cond, k_block, k_loop, k_range, k_exit, k_scope, k_ret, k_region, c_nil, c_seq, c_blk, c_lp, e_nil, e_seq, e_blk, e_lp, r_nil, r_seq, r_blk, r_lp, o_nil, o_p, o_pg, o_l, o_a, o_c, o_cg, o_store, o_mapU, o_app, o_copy, o_del, evP, evA, ev_tmp, ev_const, ev_func, evArgs_nil, evArgs_cons, evParts_nil, evParts_cons, evOpt_none, evOpt_some, putO_some, putO_none, restrict_cons, restrict_nil, argFr_cons, argFr_nil, upd_app, Nat.reduceAdd, Nat.reduceEqDiff, Nat.zero_add, Nat.add_zero, bump_zero, St.bump_next, St.put_next, decide_eq_true_eq, condK_bool, stepP_some, stepA_some, stepE_some, stepE_pend, grdK_bool, grdK_undf, opPick_dec, opPick_true, opPick_false, bin_eql, bin_neq, bin_lss, bin_leq, bin_gtr, bin_geq, bin_add64, bin_sub64, bin_mul64, pendOk_nil, passed_nil, n_add, n_mul, n_and, bin_and32, bin_shr32, conv_nat, un_not, conv_64, decide_true, decide_false, true_implies, false_implies, forall_const, and_true, true_and, eq_self, ne_eq, ↓reduceIte, implies_true, Int.reduceLT, Int.reduceGT, Int.reduceLE, Int.reduceEq, Int.reduceNeg, and_self, Bool.not_eq_true, end_ret, end_nrm, endK_some, res_nil, res_tmp, res_cell1, res_cellN, resVal_one, resVal_none, resVal_two, Option.map_some, Option.bind_some, opExtract_eq, List.getElem?_cons_zero, List.getElem?_cons_succ, opNil_ptr, fld_ptr, Nat.mul_one, kbb]
      exact ⟨_, hst _, by simp [cmpI, hv]⟩
    · intro hv
      rw [val_words, val_words] at hv
      simp only [k_skip, k_seq, k_cond, k_block, k_loop, k_range, k_exit, k_scope, k_ret, k_region, c_nil, c_seq, c_blk, c_lp, e_nil, e_seq, e_blk, e_lp, r_nil, r_seq, r_blk, r_lp, o_nil, o_p, o_pg, o_l, o_a, o_c, o_cg, o_store, o_mapU, o_app, o_copy, o_del, evP, evA, ev_tmp, ev_const, ev_func, evArgs_nil, evArgs_cons, evParts_nil, evParts_cons, evOpt_none, evOpt_some, putO_some, putO_none, restrict_cons, restrict_nil, argFr_cons, argFr_nil, upd_app, Nat.reduceAdd, Nat.reduceEqDiff, Nat.zero_add, Nat.add_zero, bump_zero, St.bump_next, St.put_next, decide_eq_true_eq, condK_bool, stepP_some, stepA_some, stepE_some, stepE_pend, grdK_bool, grdK_undf, opPick_dec, opPick_true, opPick_false, bin_eql, bin_neq, bin_lss, bin_leq, bin_gtr, bin_geq, bin_add64, bin_sub64, bin_mul64, pendOk_nil, passed_nil, n_add, n_mul, n_and, bin_and32, bin_shr32, conv_nat, un_not, conv_64, decide_true, decide_false, true_implies, false_implies, forall_const, and_true, true_and, eq_self, ne_eq, ↓reduceIte, implies_true, Int.reduceLT, Int.reduceGT, Int.reduceLE, Int.reduceEq, Int.reduceNeg, and_self, Bool.not_eq_true, end_ret, end_nrm, endK_some, res_nil, res_tmp, res_cell1, res_cellN, resVal_one, resVal_none, resVal_two, Option.map_some, Option.bind_some, opExtract_eq, List.getElem?_cons_zero, List.getElem?_cons_succ, opNil_ptr, fld_ptr, Nat.mul_one, kbb]
      exact ⟨_, hst _, by rw [cmpI, if_neg (by omega), if_neg (by omega)]⟩
    · rw [List.drop_eq_nil_of_le (by omega), List.drop_eq_nil_of_le (by omega)]
  · have h1 : ¬ ((words (val xs)).length : Int) = (words (val ys)).length := by omega
    simp only [h1, k_skip, k_seq, k_cond, k_block, k_loop, k_range, k_exit, k_scope, k_ret, k_region, c_nil, c_seq, c_blk, c_lp, e_nil, e_seq, e_blk, e_lp, r_nil, r_seq, r_blk, r_lp, o_nil, o_p, o_pg, o_l, o_a, o_c, o_cg, o_store, o_mapU, o_app, o_copy, o_del, evP, evA, ev_tmp, ev_const, ev_func, evArgs_nil, evArgs_cons, evParts_nil, evParts_cons, evOpt_none, evOpt_some, putO_some, putO_none, restrict_cons, restrict_nil, argFr_cons, argFr_nil, upd_app, Nat.reduceAdd, Nat.reduceEqDiff, Nat.zero_add, Nat.add_zero, bump_zero, St.bump_next, St.put_next, decide_eq_true_eq, condK_bool, stepP_some, stepA_some, stepE_some, stepE_pend, grdK_bool, grdK_undf, opPick_dec, opPick_true, opPick_false, bin_eql, bin_neq, bin_lss, bin_leq, bin_gtr, bin_geq, bin_add64, bin_sub64, bin_mul64, pendOk_nil, passed_nil, n_add, n_mul, n_and, bin_and32, bin_shr32, conv_nat, un_not, conv_64, decide_true, decide_false, true_implies, false_implies, forall_const, and_true, true_and, eq_self, ne_eq, ↓reduceIte, implies_true, Int.reduceLT, Int.reduceGT, Int.reduceLE, Int.reduceEq, Int.reduceNeg, and_self, Bool.not_eq_true, end_ret, end_nrm, endK_some, res_nil, res_tmp, res_cell1, res_cellN, resVal_one, resVal_none, resVal_two, Option.map_some, Option.bind_some, opExtract_eq, List.getElem?_cons_zero, List.getElem?_cons_succ, opNil_ptr, fld_ptr, Nat.mul_one, kbb, la, lb]
    by_cases hlt : (words (val xs)).length < (words (val ys)).length
    · have h2 : ((words (val xs)).length : Int) < (words (val ys)).length := by omega
      simp only [h2, k_skip, k_seq, k_cond, k_block, k_loop, k_range, k_exit, k_scope, k_ret, k_region, c_nil, c_seq, c_blk, c_lp, e_nil, e_seq, e_blk, e_lp, r_nil, r_seq, r_blk, r_lp, o_nil, o_p, o_pg, o_l, o_a, o_c, o_cg, o_store, o_mapU, o_app, o_copy, o_del, evP, evA, ev_tmp, ev_const, ev_func, evArgs_nil, evArgs_cons, evParts_nil, evParts_cons, evOpt_none, evOpt_some, putO_some, putO_none, restrict_cons, restrict_nil, argFr_cons, argFr_nil, upd_app, Nat.reduceAdd, Nat.reduceEqDiff, Nat.zero_add, Nat.add_zero, bump_zero, St.bump_next, St.put_next, decide_eq_true_eq, condK_bool, stepP_some, stepA_some, stepE_some, stepE_pend, grdK_bool, grdK_undf, opPick_dec, opPick_true, opPick_false, bin_eql, bin_neq, bin_lss, bin_leq, bin_gtr, bin_geq, bin_add64, bin_sub64, bin_mul64, pendOk_nil, passed_nil, n_add, n_mul, n_and, bin_and32, bin_shr32, conv_nat, un_not, conv_64, decide_true, decide_false, true_implies, false_implies, forall_const, and_true, true_and, eq_self, ne_eq, ↓reduceIte, implies_true, Int.reduceLT, Int.reduceGT, Int.reduceLE, Int.reduceEq, Int.reduceNeg, and_self, Bool.not_eq_true, end_ret, end_nrm, endK_some, res_nil, res_tmp, res_cell1, res_cellN, resVal_one, resVal_none, resVal_two, Option.map_some, Option.bind_some, opExtract_eq, List.getElem?_cons_zero, List.getElem?_cons_succ, opNil_ptr, fld_ptr, Nat.mul_one, kbb]
      have := lt_of_wsz (a := val xs) (b := val ys) hlt
      exact ⟨_, hst _, by simp [cmpI, this]⟩
    · have h2 : ¬ (((words (val xs)).length : Int) < (words (val ys)).length) := by omega
      simp only [h2, k_skip, k_seq, k_cond, k_block, k_loop, k_range, k_exit, k_scope, k_ret, k_region, c_nil, c_seq, c_blk, c_lp, e_nil, e_seq, e_blk, e_lp, r_nil, r_seq, r_blk, r_lp, o_nil, o_p, o_pg, o_l, o_a, o_c, o_cg, o_store, o_mapU, o_app, o_copy, o_del, evP, evA, ev_tmp, ev_const, ev_func, evArgs_nil, evArgs_cons, evParts_nil, evParts_cons, evOpt_none, evOpt_some, putO_some, putO_none, restrict_cons, restrict_nil, argFr_cons, argFr_nil, upd_app, Nat.reduceAdd, Nat.reduceEqDiff, Nat.zero_add, Nat.add_zero, bump_zero, St.bump_next, St.put_next, decide_eq_true_eq, condK_bool, stepP_some, stepA_some, stepE_some, stepE_pend, grdK_bool, grdK_undf, opPick_dec, opPick_true, opPick_false, bin_eql, bin_neq, bin_lss, bin_leq, bin_gtr, bin_geq, bin_add64, bin_sub64, bin_mul64, pendOk_nil, passed_nil, n_add, n_mul, n_and, bin_and32, bin_shr32, conv_nat, un_not, conv_64, decide_true, decide_false, true_implies, false_implies, forall_const, and_true, true_and, eq_self, ne_eq, ↓reduceIte, implies_true, Int.reduceLT, Int.reduceGT, Int.reduceLE, Int.reduceEq, Int.reduceNeg, and_self, Bool.not_eq_true, end_ret, end_nrm, endK_some, res_nil, res_tmp, res_cell1, res_cellN, resVal_one, resVal_none, resVal_two, Option.map_some, Option.bind_some, opExtract_eq, List.getElem?_cons_zero, List.getElem?_cons_succ, opNil_ptr, fld_ptr, Nat.mul_one, kbb]
      have := lt_of_wsz (a := val ys) (b := val xs) (by unfold wsz; omega)
      exact ⟨_, hst _, by rw [cmpI, if_neg (by omega), if_neg (by omega)]⟩
end Go.Iso

namespace Go.Iso
open Go.Ev
variable {prog : Nat → Option CDecl} [A : Arith prog]

/-- A local row of words. -/
structure Loc (s0 s : St) (b : Nat) (ws : List Nat) : Prop where
  later : Later s0 s
  fresh : Fresh s
  get : s.get b = some (.cells false (ws.map u64))
  wm : s.wm ≤ b
  lo : s0.next ≤ b
  hi : b < s.next

theorem map_set (ws : List Nat) (i w : Nat) : (ws.map u64).set i (u64 w) = (ws.set i w).map u64 := by
  rw [List.map_set]
theorem map_getD {ws : List Nat} {i : Nat} (h : i < ws.length) : (ws.map u64).getD i undf = u64 (ws.getD i 0) := by simp [List.getD, h]

theorem Loc.set {s0 s : St} {b : Nat} {ws : List Nat} (h : Loc s0 s b ws) (i w : Nat) : Loc s0 (s.put b (.cells false ((ws.map u64).set i (u64 w)))) b (ws.set i w) :=
  ⟨h.later.put h.lo, h.fresh.put h.hi, by rw [put_get, map_set], h.wm, h.lo, h.hi⟩
theorem Loc.mag {s0 s : St} {b : Nat} {ws : List Nat} (h : Loc s0 s b ws) (hw : Wd ws) (hl : ws.length ≤ 1099511627776) : MagV s (.slice (some ⟨b, 0, none⟩) ws.length 1) ws := local_mag h.fresh h.get hw hl
theorem Loc.settle {s0 s : St} {b : Nat} {ws : List Nat} (h : Loc s0 s b ws) (hw : Wd ws) : ∃ v', settle s.get s0.next 8 (sub 1 (.slice (some ⟨b, 0, none⟩) ws.length 1) 0 (wsz (val ws))) = some v' ∧ IsMag v' (val ws) :=
  settle_mag (W_row h.get (by simp) (by rw [List.drop_zero, List.take_of_length_le (by simp)])) hw (by intro a n z e; cases e; exact h.lo)

theorem Loc.make {s0 : St} (hf : Fresh s0) (hwm : s0.wm ≤ s0.next) (n : Nat) : Loc s0 ((s0.bump 1).put s0.next (.cells false (List.replicate n (u64 0)))) s0.next (List.replicate n 0) :=
  ⟨((Later.refl s0).bump 1).put (Nat.le_refl _), (hf.bump 1).put (by simp), by rw [put_get, List.map_replicate], hwm, Nat.le_refl _, by simp⟩
theorem wd_rep (n : Nat) : Wd (List.replicate n 0) := fun w hw => by rw [List.eq_of_mem_replicate hw]; omega

theorem wd_set {ws : List Nat} (h : Wd ws) (i : Nat) {w : Nat} (hw : w < 18446744073709551616) : Wd (ws.set i w) := fun x hx => by
  rcases List.mem_or_eq_of_mem_set hx with hx | rfl
  · exact h x hx
  · exact hw
theorem take_set {ws : List Nat} {i w : Nat} (h : i < ws.length) : val ((ws.set i w).take (i + 1)) = val (ws.take i) + 18446744073709551616 ^ i * w := by
  rw [val_take_succ (by simpa using h), List.take_set_of_le (Nat.le_refl _)]
  simp [List.getD, h]

theorem Add64_ret {s : St} {x y c : Nat} (hc : c ≤ 1) : Ret prog (fv n_bits_Add64) [u64 x, u64 y, u64 c] s (.tuple ⟨[u64 ((x + y + c) % 18446744073709551616), u64 ((x + y + c) / 18446744073709551616)]⟩) s := by
  obtain ⟨v, s', h1, h2, h3⟩ := wcall_ext (prog := prog) (fid := n_bits_Add64) (sub := false) (cap := []) (args := [u64 x, u64 y, u64 c]) (s := s) (Q := fun v s' => v = .tuple ⟨[u64 ((x + y + c) % 18446744073709551616), u64 ((x + y + c) / 18446744073709551616)]⟩ ∧ s' = s)
    (v := .tuple ⟨[u64 ((x + y + c) % 18446744073709551616), u64 ((x + y + c) / 18446744073709551616)]⟩) A.p_add64 (by
      have : Nat.ble c 1 = true := Nat.ble_eq_true_of_le hc
      simp [ext, this]) ⟨rfl, rfl⟩
  subst h2 h3
  exact h1
theorem Sub64_ret {s : St} {x y c : Nat} (hx : x < 18446744073709551616) (hy : y < 18446744073709551616) (hc : c ≤ 1) :
    ∃ r q, r < 18446744073709551616 ∧ q ≤ 1 ∧ r + y + c = x + 18446744073709551616 * q ∧ Ret prog (fv n_bits_Sub64) [u64 x, u64 y, u64 c] s (.tuple ⟨[u64 r, u64 q]⟩) s := by
  refine ⟨(x + 18446744073709551616 - y - c) % 18446744073709551616, if y + c ≤ x then 0 else 1, by omega, by split <;> omega, by split <;> omega, ?_⟩
  obtain ⟨v, s', h1, h2, h3⟩ := wcall_ext (prog := prog) (fid := n_bits_Sub64) (sub := true) (cap := []) (args := [u64 x, u64 y, u64 c]) (s := s) (Q := fun v s' => v = .tuple ⟨[u64 ((x + 18446744073709551616 - y - c) % 18446744073709551616), u64 (if y + c ≤ x then 0 else 1)]⟩ ∧ s' = s)
    (v := .tuple ⟨[u64 ((x + 18446744073709551616 - y - c) % 18446744073709551616), u64 (if y + c ≤ x then 0 else 1)]⟩) A.p_sub64 (by
      have : Nat.ble c 1 = true := Nat.ble_eq_true_of_le hc
      simp only [ext, List.append_nil, this, cond_true, natble]
      by_cases h : y + c ≤ x <;> simp [h]) ⟨rfl, rfl⟩
  subst h2 h3
  exact h1

theorem p_Add : prog n_mag_Add = some (.fn c_mag_Add) := A.p_Add

theorem zero_u : Value.int .u64 0 = u64 (0 : Nat) := rfl
theorem Add_r0 {s0 s : St} {a b v9 : Value} {G : Fr} {os : List Nat} {ob i n N x y c : Nat} (hv9 : v9 = u64 y) (hloc : Loc s0 s ob os) (hol : os.length = n) (hi : i < n) (hc : c ≤ 1) {k : List KItem} {Q : Ex → Fr → St → Prop}
    (hK : contK prog (upd (upd (upd (upd (upd (upd (upd (fun _ => unk) 23 (i64 i)) 22 (i64 N)) 21 a) 6 (u64 ((x + y + c) / 18446744073709551616))) 5 (.slice (some ⟨ob, 0, none⟩) n 1)) 1 b) 0 a)
      (s.put ob (.cells false ((os.map u64).set i (u64 ((x + y + c) % 18446744073709551616))))) k Q) :
    wpK prog c_mag_Add_r0 (upd (upd (upd (upd (upd (upd (upd (upd (upd (upd G 23 (i64 i)) 22 (i64 N)) 21 a) 9 v9) 8 (u64 x)) 7 (i64 i)) 6 (u64 c)) 5 (.slice (some ⟨ob, 0, none⟩) n 1)) 1 b) 0 a) s k Q := by
  have ht : (i : Int).toNat = i := by omega
  have hlm : (os.map u64).length = os.length := by simp
  subst hv9
  simp (disch := omega) only [c_mag_Add_r0, k_skip, k_seq, k_cond, k_block, k_loop, k_range, k_exit, k_scope, k_ret, k_region, c_nil, c_seq, c_blk, c_lp, e_nil, e_seq, e_blk, e_lp, r_nil, r_seq, r_blk, r_lp, o_nil, o_p, o_pg, o_l, o_a, o_c, o_cg, o_store, o_mapU, o_app, o_copy, o_del, evP, evA, ev_tmp, ev_const, ev_func, evArgs_nil, evArgs_cons, evParts_nil, evParts_cons, evOpt_none, evOpt_some, putO_some, putO_none, restrict_cons, restrict_nil, argFr_cons, argFr_nil, upd_app, Nat.reduceAdd, Nat.reduceEqDiff, Nat.zero_add, Nat.add_zero, bump_zero, St.bump_next, St.put_next, decide_eq_true_eq, condK_bool, stepP_some, stepA_some, stepE_some, stepE_pend, grdK_bool, grdK_undf, opPick_dec, opPick_true, opPick_false, bin_eql, bin_neq, bin_lss, bin_leq, bin_gtr, bin_geq, bin_add64, bin_sub64, bin_mul64, pendOk_nil, passed_nil, n_add, n_mul, n_and, bin_and32, bin_shr32, conv_nat, un_not, conv_64, decide_true, decide_false, true_implies, false_implies, forall_const, and_true, true_and, eq_self, ne_eq, ↓reduceIte, implies_true, Int.reduceLT, Int.reduceGT, Int.reduceLE, Int.reduceEq, Int.reduceNeg, and_self, Bool.not_eq_true, end_ret, end_nrm, endK_some, res_nil, res_tmp, res_cell1, res_cellN, resVal_one, resVal_none, resVal_two, Option.map_some, Option.bind_some, opExtract_eq, List.getElem?_cons_zero, List.getElem?_cons_succ, opNil_ptr, fld_ptr, Nat.mul_one, kbb]
  refine callK.of0 (Add64_ret hc) ?_
  have hst := fun w => store1 (j := i) (x := u64 w) hloc.get hloc.wm (by omega) rfl
  simp (disch := omega) only [k_skip, k_seq, k_cond, k_block, k_loop, k_range, k_exit, k_scope, k_ret, k_region, c_nil, c_seq, c_blk, c_lp, e_nil, e_seq, e_blk, e_lp, r_nil, r_seq, r_blk, r_lp, o_nil, o_p, o_pg, o_l, o_a, o_c, o_cg, o_store, o_mapU, o_app, o_copy, o_del, evP, evA, ev_tmp, ev_const, ev_func, evArgs_nil, evArgs_cons, evParts_nil, evParts_cons, evOpt_none, evOpt_some, putO_some, putO_none, restrict_cons, restrict_nil, argFr_cons, argFr_nil, upd_app, Nat.reduceAdd, Nat.reduceEqDiff, Nat.zero_add, Nat.add_zero, bump_zero, St.bump_next, St.put_next, decide_eq_true_eq, condK_bool, stepP_some, stepA_some, stepE_some, stepE_pend, grdK_bool, grdK_undf, opPick_dec, opPick_true, opPick_false, bin_eql, bin_neq, bin_lss, bin_leq, bin_gtr, bin_geq, bin_add64, bin_sub64, bin_mul64, pendOk_nil, passed_nil, n_add, n_mul, n_and, bin_and32, bin_shr32, conv_nat, un_not, conv_64, decide_true, decide_false, true_implies, false_implies, forall_const, and_true, true_and, eq_self, ne_eq, ↓reduceIte, implies_true, Int.reduceLT, Int.reduceGT, Int.reduceLE, Int.reduceEq, Int.reduceNeg, and_self, Bool.not_eq_true, end_ret, end_nrm, endK_some, res_nil, res_tmp, res_cell1, res_cellN, resVal_one, resVal_none, resVal_two, Option.map_some, Option.bind_some, opExtract_eq, List.getElem?_cons_zero, List.getElem?_cons_succ, opNil_ptr, fld_ptr, Nat.mul_one, kbb, sl_addr, ht, hst]
  exact hK

theorem Add_loop {s0 : St} {a b : Value} {xs ys : List Nat} (ha : RowL s0 1 a (W xs)) (hb : RowL s0 1 b (W ys)) (hx : Wd xs) (hy : Wd ys) (hl : ys.length ≤ xs.length) (hbig : xs.length ≤ 1099511627776) {ob : Nat}
    {k : List KItem} {Q : Ex → Fr → St → Prop}
    (hexit : ∀ s os c, Loc s0 s ob os → os.length = xs.length + 1 → Wd os → c ≤ 1 → val (os.take xs.length) + 18446744073709551616 ^ xs.length * c = val xs + val ys →
      contK prog (upd (upd (upd (upd (upd (upd (upd (upd (fun _ => unk) 24 (.bool false)) 23 (i64 xs.length)) 22 (i64 xs.length)) 21 a) 6 (u64 c)) 5 (.slice (some ⟨ob, 0, none⟩) (xs.length + 1) 1)) 1 b) 0 a) s k Q) :
    ∀ m i s os c, i + m = xs.length → Loc s0 s ob os → os.length = xs.length + 1 → Wd os → c ≤ 1 → val (os.take i) + 18446744073709551616 ^ i * c = val (xs.take i) + val (ys.take i) →
      loopK prog [0, 1, 5, 6, 21, 22, 23] c_mag_Add_lp0 (upd (upd (upd (upd (upd (upd (upd (fun _ => unk) 23 (i64 i)) 22 (i64 xs.length)) 21 a) 6 (u64 c)) 5 (.slice (some ⟨ob, 0, none⟩) (xs.length + 1) 1)) 1 b) 0 a) s (.blk 0 :: k) Q := by
  intro m
  induction m with
  | zero =>
    intro i s os c hi hloc hol hw hc hv
    have hi : i = xs.length := by omega
    subst hi
    have hlt : ¬ (xs.length : Int) < xs.length := by omega
    refine loopK.stepAs c_mag_Add_lp0.eq_1 ?_
    simp only [hlt, k_skip, k_seq, k_cond, k_block, k_loop, k_range, k_exit, k_scope, k_ret, k_region, c_nil, c_seq, c_blk, c_lp, e_nil, e_seq, e_blk, e_lp, r_nil, r_seq, r_blk, r_lp, o_nil, o_p, o_pg, o_l, o_a, o_c, o_cg, o_store, o_mapU, o_app, o_copy, o_del, evP, evA, ev_tmp, ev_const, ev_func, evArgs_nil, evArgs_cons, evParts_nil, evParts_cons, evOpt_none, evOpt_some, putO_some, putO_none, restrict_cons, restrict_nil, argFr_cons, argFr_nil, upd_app, Nat.reduceAdd, Nat.reduceEqDiff, Nat.zero_add, Nat.add_zero, bump_zero, St.bump_next, St.put_next, decide_eq_true_eq, condK_bool, stepP_some, stepA_some, stepE_some, stepE_pend, grdK_bool, grdK_undf, opPick_dec, opPick_true, opPick_false, bin_eql, bin_neq, bin_lss, bin_leq, bin_gtr, bin_geq, bin_add64, bin_sub64, bin_mul64, pendOk_nil, passed_nil, n_add, n_mul, n_and, bin_and32, bin_shr32, conv_nat, un_not, conv_64, decide_true, decide_false, true_implies, false_implies, forall_const, and_true, true_and, eq_self, ne_eq, ↓reduceIte, implies_true, Int.reduceLT, Int.reduceGT, Int.reduceLE, Int.reduceEq, Int.reduceNeg, and_self, Bool.not_eq_true, end_ret, end_nrm, endK_some, res_nil, res_tmp, res_cell1, res_cellN, resVal_one, resVal_none, resVal_two, Option.map_some, Option.bind_some, opExtract_eq, List.getElem?_cons_zero, List.getElem?_cons_succ, opNil_ptr, fld_ptr, Nat.mul_one, kbb]
    refine hexit s os c hloc hol hw hc ?_
    rw [List.take_length, List.take_of_length_le hl] at hv
    exact hv
  | succ m ih =>
    intro i s os c hi hloc hol hw hc hv
    have hlt : (i : Int) < xs.length := by omega
    have ra := ha s hloc.later
    have rb := hb s hloc.later
    have hlx := W_len xs
    have hly := W_len ys
    have ht : (i : Int).toNat = i := by omega
    have hxa := W_at (ws := xs) (i := i) (by omega)
    have hlb := rb.len
    rw [hly] at hlb
    have hxi := hx.at i
    have hlo : i < os.length := by omega
    have next : ∀ y, y < 18446744073709551616 → val (ys.take (i + 1)) = val (ys.take i) + 18446744073709551616 ^ i * y → 
        loopK prog [0, 1, 5, 6, 21, 22, 23] c_mag_Add_lp0 (upd (upd (upd (upd (upd (upd (upd (fun _ => unk) 23 (i64 (i + 1 : Nat))) 22 (i64 xs.length)) 21 a) 6 (u64 ((xs.getD i 0 + y + c) / 18446744073709551616))) 5 (.slice (some ⟨ob, 0, none⟩) (xs.length + 1) 1)) 1 b) 0 a)
          (s.put ob (.cells false ((os.map u64).set i (u64 ((xs.getD i 0 + y + c) % 18446744073709551616))))) (.blk 0 :: k) Q := by
      intro y hy hvy
      refine ih (i + 1) _ _ _ (by omega) (hloc.set i _) (by simpa using hol) (wd_set hw i (by omega)) (by omega) ?_
      rw [take_set hlo, hvy, val_take_succ (by omega), Nat.pow_succ]
      generalize 18446744073709551616 ^ i = p at *
      have e : xs.getD i 0 + y + c = 18446744073709551616 * ((xs.getD i 0 + y + c) / 18446744073709551616) + (xs.getD i 0 + y + c) % 18446744073709551616 := by omega
      generalize (xs.getD i 0 + y + c) / 18446744073709551616 = q at *
      generalize (xs.getD i 0 + y + c) % 18446744073709551616 = r at *
      have e2 : p * (xs.getD i 0 + y + c) = p * (18446744073709551616 * q + r) := by rw [e]
      rw [Nat.mul_add, Nat.mul_add, Nat.mul_add, ← Nat.mul_assoc] at e2
      omega
    have hi1 : (i : Int) + 1 = (i + 1 : Nat) := by omega
    refine loopK.stepAs c_mag_Add_lp0.eq_1 ?_
    by_cases hiy : i < ys.length
    · have hyb := W_at (ws := ys) (i := i) (by omega)
      have hlt2 : (i : Int) < ys.length := by omega
      simp (disch := omega) only [hlt, hlt2, ra.addr, ht, ra.load0, hxa, hlb, rb.addr, rb.load0, hyb, k_skip, k_seq, k_cond, k_block, k_loop, k_range, k_exit, k_scope, k_ret, k_region, c_nil, c_seq, c_blk, c_lp, e_nil, e_seq, e_blk, e_lp, r_nil, r_seq, r_blk, r_lp, o_nil, o_p, o_pg, o_l, o_a, o_c, o_cg, o_store, o_mapU, o_app, o_copy, o_del, evP, evA, ev_tmp, ev_const, ev_func, evArgs_nil, evArgs_cons, evParts_nil, evParts_cons, evOpt_none, evOpt_some, putO_some, putO_none, restrict_cons, restrict_nil, argFr_cons, argFr_nil, upd_app, Nat.reduceAdd, Nat.reduceEqDiff, Nat.zero_add, Nat.add_zero, bump_zero, St.bump_next, St.put_next, decide_eq_true_eq, condK_bool, stepP_some, stepA_some, stepE_some, stepE_pend, grdK_bool, grdK_undf, opPick_dec, opPick_true, opPick_false, bin_eql, bin_neq, bin_lss, bin_leq, bin_gtr, bin_geq, bin_add64, bin_sub64, bin_mul64, pendOk_nil, passed_nil, n_add, n_mul, n_and, bin_and32, bin_shr32, conv_nat, un_not, conv_64, decide_true, decide_false, true_implies, false_implies, forall_const, and_true, true_and, eq_self, ne_eq, ↓reduceIte, implies_true, Int.reduceLT, Int.reduceGT, Int.reduceLE, Int.reduceEq, Int.reduceNeg, and_self, Bool.not_eq_true, end_ret, end_nrm, endK_some, res_nil, res_tmp, res_cell1, res_cellN, resVal_one, resVal_none, resVal_two, Option.map_some, Option.bind_some, opExtract_eq, List.getElem?_cons_zero, List.getElem?_cons_succ, opNil_ptr, fld_ptr, Nat.mul_one, kbb]
      refine Add_r0 rfl hloc hol (by omega) hc ?_
      simp (disch := omega) only [k_skip, k_seq, k_cond, k_block, k_loop, k_range, k_exit, k_scope, k_ret, k_region, c_nil, c_seq, c_blk, c_lp, e_nil, e_seq, e_blk, e_lp, r_nil, r_seq, r_blk, r_lp, o_nil, o_p, o_pg, o_l, o_a, o_c, o_cg, o_store, o_mapU, o_app, o_copy, o_del, evP, evA, ev_tmp, ev_const, ev_func, evArgs_nil, evArgs_cons, evParts_nil, evParts_cons, evOpt_none, evOpt_some, putO_some, putO_none, restrict_cons, restrict_nil, argFr_cons, argFr_nil, upd_app, Nat.reduceAdd, Nat.reduceEqDiff, Nat.zero_add, Nat.add_zero, bump_zero, St.bump_next, St.put_next, decide_eq_true_eq, condK_bool, stepP_some, stepA_some, stepE_some, stepE_pend, grdK_bool, grdK_undf, opPick_dec, opPick_true, opPick_false, bin_eql, bin_neq, bin_lss, bin_leq, bin_gtr, bin_geq, bin_add64, bin_sub64, bin_mul64, pendOk_nil, passed_nil, n_add, n_mul, n_and, bin_and32, bin_shr32, conv_nat, un_not, conv_64, decide_true, decide_false, true_implies, false_implies, forall_const, and_true, true_and, eq_self, ne_eq, ↓reduceIte, implies_true, Int.reduceLT, Int.reduceGT, Int.reduceLE, Int.reduceEq, Int.reduceNeg, and_self, Bool.not_eq_true, end_ret, end_nrm, endK_some, res_nil, res_tmp, res_cell1, res_cellN, resVal_one, resVal_none, resVal_two, Option.map_some, Option.bind_some, opExtract_eq, List.getElem?_cons_zero, List.getElem?_cons_succ, opNil_ptr, fld_ptr, Nat.mul_one, kbb, hi1]
      exact next (ys.getD i 0) (hy.at i) (val_take_succ (by omega))
    · have hlt2 : ¬ (i : Int) < ys.length := by omega
      simp (disch := omega) only [hlt, hlt2, ra.addr, ht, ra.load0, hxa, hlb, k_skip, k_seq, k_cond, k_block, k_loop, k_range, k_exit, k_scope, k_ret, k_region, c_nil, c_seq, c_blk, c_lp, e_nil, e_seq, e_blk, e_lp, r_nil, r_seq, r_blk, r_lp, o_nil, o_p, o_pg, o_l, o_a, o_c, o_cg, o_store, o_mapU, o_app, o_copy, o_del, evP, evA, ev_tmp, ev_const, ev_func, evArgs_nil, evArgs_cons, evParts_nil, evParts_cons, evOpt_none, evOpt_some, putO_some, putO_none, restrict_cons, restrict_nil, argFr_cons, argFr_nil, upd_app, Nat.reduceAdd, Nat.reduceEqDiff, Nat.zero_add, Nat.add_zero, bump_zero, St.bump_next, St.put_next, decide_eq_true_eq, condK_bool, stepP_some, stepA_some, stepE_some, stepE_pend, grdK_bool, grdK_undf, opPick_dec, opPick_true, opPick_false, bin_eql, bin_neq, bin_lss, bin_leq, bin_gtr, bin_geq, bin_add64, bin_sub64, bin_mul64, pendOk_nil, passed_nil, n_add, n_mul, n_and, bin_and32, bin_shr32, conv_nat, un_not, conv_64, decide_true, decide_false, true_implies, false_implies, forall_const, and_true, true_and, eq_self, ne_eq, ↓reduceIte, implies_true, Int.reduceLT, Int.reduceGT, Int.reduceLE, Int.reduceEq, Int.reduceNeg, and_self, Bool.not_eq_true, end_ret, end_nrm, endK_some, res_nil, res_tmp, res_cell1, res_cellN, resVal_one, resVal_none, resVal_two, Option.map_some, Option.bind_some, opExtract_eq, List.getElem?_cons_zero, List.getElem?_cons_succ, opNil_ptr, fld_ptr, Nat.mul_one, kbb]
      refine Add_r0 zero_u hloc hol (by omega) hc ?_
      simp (disch := omega) only [k_skip, k_seq, k_cond, k_block, k_loop, k_range, k_exit, k_scope, k_ret, k_region, c_nil, c_seq, c_blk, c_lp, e_nil, e_seq, e_blk, e_lp, r_nil, r_seq, r_blk, r_lp, o_nil, o_p, o_pg, o_l, o_a, o_c, o_cg, o_store, o_mapU, o_app, o_copy, o_del, evP, evA, ev_tmp, ev_const, ev_func, evArgs_nil, evArgs_cons, evParts_nil, evParts_cons, evOpt_none, evOpt_some, putO_some, putO_none, restrict_cons, restrict_nil, argFr_cons, argFr_nil, upd_app, Nat.reduceAdd, Nat.reduceEqDiff, Nat.zero_add, Nat.add_zero, bump_zero, St.bump_next, St.put_next, decide_eq_true_eq, condK_bool, stepP_some, stepA_some, stepE_some, stepE_pend, grdK_bool, grdK_undf, opPick_dec, opPick_true, opPick_false, bin_eql, bin_neq, bin_lss, bin_leq, bin_gtr, bin_geq, bin_add64, bin_sub64, bin_mul64, pendOk_nil, passed_nil, n_add, n_mul, n_and, bin_and32, bin_shr32, conv_nat, un_not, conv_64, decide_true, decide_false, true_implies, false_implies, forall_const, and_true, true_and, eq_self, ne_eq, ↓reduceIte, implies_true, Int.reduceLT, Int.reduceGT, Int.reduceLE, Int.reduceEq, Int.reduceNeg, and_self, Bool.not_eq_true, end_ret, end_nrm, endK_some, res_nil, res_tmp, res_cell1, res_cellN, resVal_one, resVal_none, resVal_two, Option.map_some, Option.bind_some, opExtract_eq, List.getElem?_cons_zero, List.getElem?_cons_succ, opNil_ptr, fld_ptr, Nat.mul_one, kbb, hi1]
      refine next 0 (by omega) ?_
      rw [List.take_of_length_le (by omega), List.take_of_length_le (by omega)]
      omega

theorem Add_tail {s s0 : St} (hs0 : s0 = ⟨s.next, s.next, s.heap⟩) (hf : Fresh s) {a b : Value} {xs ys : List Nat} (ha : MagV s a xs) (hb : MagV s b ys) (hl : ys.length ≤ xs.length) (hbig : xs.length + 1 ≤ 1099511627776) :
    wpK prog c_mag_Add_r1 (upd (upd (fun _ => unk) 1 b) 0 a) s0 [] (wpEnd [.tmp 4] fun v s' => ∃ v', settle s'.get s.next 8 v = some v' ∧ IsMag v' (val xs + val ys)) := by
  have hL : Later s s0 := by subst hs0; exact Later.callee s
  have hf0 : Fresh s0 := by subst hs0; exact hf
  have hnx : s0.next = s.next := by subst hs0; rfl
  have hwm0 : s0.wm ≤ s0.next := by subst hs0; exact Nat.le_refl _
  have hlx := W_len xs
  have hla := ((ha.row s0 hL)).len
  have ht : ((xs.length : Int) + 1).toNat = xs.length + 1 := by omega
  rw [hlx] at hla
  simp (disch := omega) only [c_mag_Add_r1, k_skip, k_seq, k_cond, k_block, k_loop, k_range, k_exit, k_scope, k_ret, k_region, c_nil, c_seq, c_blk, c_lp, e_nil, e_seq, e_blk, e_lp, r_nil, r_seq, r_blk, r_lp, o_nil, o_p, o_pg, o_l, o_a, o_c, o_cg, o_store, o_mapU, o_app, o_copy, o_del, evP, evA, ev_tmp, ev_const, ev_func, evArgs_nil, evArgs_cons, evParts_nil, evParts_cons, evOpt_none, evOpt_some, putO_some, putO_none, restrict_cons, restrict_nil, argFr_cons, argFr_nil, upd_app, Nat.reduceAdd, Nat.reduceEqDiff, Nat.zero_add, Nat.add_zero, bump_zero, St.bump_next, St.put_next, decide_eq_true_eq, condK_bool, stepP_some, stepA_some, stepE_some, stepE_pend, grdK_bool, grdK_undf, opPick_dec, opPick_true, opPick_false, bin_eql, bin_neq, bin_lss, bin_leq, bin_gtr, bin_geq, bin_add64, bin_sub64, bin_mul64, pendOk_nil, passed_nil, n_add, n_mul, n_and, bin_and32, bin_shr32, conv_nat, un_not, conv_64, decide_true, decide_false, true_implies, false_implies, forall_const, and_true, true_and, eq_self, ne_eq, ↓reduceIte, implies_true, Int.reduceLT, Int.reduceGT, Int.reduceLE, Int.reduceEq, Int.reduceNeg, and_self, Bool.not_eq_true, end_ret, end_nrm, endK_some, res_nil, res_tmp, res_cell1, res_cellN, resVal_one, resVal_none, resVal_two, Option.map_some, Option.bind_some, opExtract_eq, List.getElem?_cons_zero, List.getElem?_cons_succ, opNil_ptr, fld_ptr, Nat.mul_one, kbb, hla, make_row, ht, reps_one]
  have hmk := Loc.make hf0 hwm0 (xs.length + 1)
  refine Add_loop (ha.later hL).row (hb.later hL).row ha.wd hb.wd hl (by omega) ?_ xs.length 0 _ _ 0 (by omega) hmk (by simp) (wd_rep _) (by omega) (by simp [val])
  intro s1 os c hloc hol hw hc hv
  have ht2 : (xs.length : Int).toNat = xs.length := by omega
  have hst := fun w => store1 (j := xs.length) (x := u64 w) hloc.get hloc.wm (by simp; omega) rfl
  simp (disch := omega) only [k_skip, k_seq, k_cond, k_block, k_loop, k_range, k_exit, k_scope, k_ret, k_region, c_nil, c_seq, c_blk, c_lp, e_nil, e_seq, e_blk, e_lp, r_nil, r_seq, r_blk, r_lp, o_nil, o_p, o_pg, o_l, o_a, o_c, o_cg, o_store, o_mapU, o_app, o_copy, o_del, evP, evA, ev_tmp, ev_const, ev_func, evArgs_nil, evArgs_cons, evParts_nil, evParts_cons, evOpt_none, evOpt_some, putO_some, putO_none, restrict_cons, restrict_nil, argFr_cons, argFr_nil, upd_app, Nat.reduceAdd, Nat.reduceEqDiff, Nat.zero_add, Nat.add_zero, bump_zero, St.bump_next, St.put_next, decide_eq_true_eq, condK_bool, stepP_some, stepA_some, stepE_some, stepE_pend, grdK_bool, grdK_undf, opPick_dec, opPick_true, opPick_false, bin_eql, bin_neq, bin_lss, bin_leq, bin_gtr, bin_geq, bin_add64, bin_sub64, bin_mul64, pendOk_nil, passed_nil, n_add, n_mul, n_and, bin_and32, bin_shr32, conv_nat, un_not, conv_64, decide_true, decide_false, true_implies, false_implies, forall_const, and_true, true_and, eq_self, ne_eq, ↓reduceIte, implies_true, Int.reduceLT, Int.reduceGT, Int.reduceLE, Int.reduceEq, Int.reduceNeg, and_self, Bool.not_eq_true, end_ret, end_nrm, endK_some, res_nil, res_tmp, res_cell1, res_cellN, resVal_one, resVal_none, resVal_two, Option.map_some, Option.bind_some, opExtract_eq, List.getElem?_cons_zero, List.getElem?_cons_succ, opNil_ptr, fld_ptr, Nat.mul_one, kbb, hla, sl_addr, ht2, hst]
  have hloc2 := hloc.set xs.length c
  have hw2 := wd_set hw xs.length (show c < 18446744073709551616 by omega)
  have hval : val (os.set xs.length c) = val xs + val ys := by
    have h1 := take_set (ws := os) (i := xs.length) (w := c) (by omega)
    rw [List.take_of_length_le (by simp; omega)] at h1
    rw [h1, hv]
  have hm := hloc2.mag hw2 (by simp; omega)
  have hset := hloc2.settle hw2
  rw [List.length_set, hol] at hm hset
  refine callK.of0 (right_ret hm) ?_
  simp only [k_skip, k_seq, k_cond, k_block, k_loop, k_range, k_exit, k_scope, k_ret, k_region, c_nil, c_seq, c_blk, c_lp, e_nil, e_seq, e_blk, e_lp, r_nil, r_seq, r_blk, r_lp, o_nil, o_p, o_pg, o_l, o_a, o_c, o_cg, o_store, o_mapU, o_app, o_copy, o_del, evP, evA, ev_tmp, ev_const, ev_func, evArgs_nil, evArgs_cons, evParts_nil, evParts_cons, evOpt_none, evOpt_some, putO_some, putO_none, restrict_cons, restrict_nil, argFr_cons, argFr_nil, upd_app, Nat.reduceAdd, Nat.reduceEqDiff, Nat.zero_add, Nat.add_zero, bump_zero, St.bump_next, St.put_next, decide_eq_true_eq, condK_bool, stepP_some, stepA_some, stepE_some, stepE_pend, grdK_bool, grdK_undf, opPick_dec, opPick_true, opPick_false, bin_eql, bin_neq, bin_lss, bin_leq, bin_gtr, bin_geq, bin_add64, bin_sub64, bin_mul64, pendOk_nil, passed_nil, n_add, n_mul, n_and, bin_and32, bin_shr32, conv_nat, un_not, conv_64, decide_true, decide_false, true_implies, false_implies, forall_const, and_true, true_and, eq_self, ne_eq, ↓reduceIte, implies_true, Int.reduceLT, Int.reduceGT, Int.reduceLE, Int.reduceEq, Int.reduceNeg, and_self, Bool.not_eq_true, end_ret, end_nrm, endK_some, res_nil, res_tmp, res_cell1, res_cellN, resVal_one, resVal_none, resVal_two, Option.map_some, Option.bind_some, opExtract_eq, List.getElem?_cons_zero, List.getElem?_cons_succ, opNil_ptr, fld_ptr, Nat.mul_one, kbb]
  rw [hval] at hset
  rw [hval, ← hnx]
  exact hset

theorem Add_ret {s : St} (hf : Fresh s) {a b : Value} {xs ys : List Nat} (ha : MagV s a xs) (hb : MagV s b ys) (hx : xs.length + 1 ≤ 1099511627776) (hy : ys.length + 1 ≤ 1099511627776) :
    ∃ v, Ret prog (fv n_mag_Add) [a, b] s v s ∧ IsMag v (val xs + val ys) := by
  refine ret_pure p_Add rfl (by simp [c_mag_Add]) fun s0 hs0 => ?_
  have hL : Later s s0 := by subst hs0; exact Later.callee s
  have hla := ((ha.row s0 hL)).len
  have hlb := ((hb.row s0 hL)).len
  rw [W_len] at hla hlb
  simp only [c_mag_Add, k_skip, k_seq, k_cond, k_block, k_loop, k_range, k_exit, k_scope, k_ret, k_region, c_nil, c_seq, c_blk, c_lp, e_nil, e_seq, e_blk, e_lp, r_nil, r_seq, r_blk, r_lp, o_nil, o_p, o_pg, o_l, o_a, o_c, o_cg, o_store, o_mapU, o_app, o_copy, o_del, evP, evA, ev_tmp, ev_const, ev_func, evArgs_nil, evArgs_cons, evParts_nil, evParts_cons, evOpt_none, evOpt_some, putO_some, putO_none, restrict_cons, restrict_nil, argFr_cons, argFr_nil, upd_app, Nat.reduceAdd, Nat.reduceEqDiff, Nat.zero_add, Nat.add_zero, bump_zero, St.bump_next, St.put_next, decide_eq_true_eq, condK_bool, stepP_some, stepA_some, stepE_some, stepE_pend, grdK_bool, grdK_undf, opPick_dec, opPick_true, opPick_false, bin_eql, bin_neq, bin_lss, bin_leq, bin_gtr, bin_geq, bin_add64, bin_sub64, bin_mul64, pendOk_nil, passed_nil, n_add, n_mul, n_and, bin_and32, bin_shr32, conv_nat, un_not, conv_64, decide_true, decide_false, true_implies, false_implies, forall_const, and_true, true_and, eq_self, ne_eq, ↓reduceIte, implies_true, Int.reduceLT, Int.reduceGT, Int.reduceLE, Int.reduceEq, Int.reduceNeg, and_self, Bool.not_eq_true, end_ret, end_nrm, endK_some, res_nil, res_tmp, res_cell1, res_cellN, resVal_one, resVal_none, resVal_two, Option.map_some, Option.bind_some, opExtract_eq, List.getElem?_cons_zero, List.getElem?_cons_succ, opNil_ptr, fld_ptr, Nat.mul_one, kbb, hla, hlb]
  by_cases h : xs.length < ys.length
  · have h1 : (xs.length : Int) < ys.length := by omega
    simp only [h1, k_skip, k_seq, k_cond, k_block, k_loop, k_range, k_exit, k_scope, k_ret, k_region, c_nil, c_seq, c_blk, c_lp, e_nil, e_seq, e_blk, e_lp, r_nil, r_seq, r_blk, r_lp, o_nil, o_p, o_pg, o_l, o_a, o_c, o_cg, o_store, o_mapU, o_app, o_copy, o_del, evP, evA, ev_tmp, ev_const, ev_func, evArgs_nil, evArgs_cons, evParts_nil, evParts_cons, evOpt_none, evOpt_some, putO_some, putO_none, restrict_cons, restrict_nil, argFr_cons, argFr_nil, upd_app, Nat.reduceAdd, Nat.reduceEqDiff, Nat.zero_add, Nat.add_zero, bump_zero, St.bump_next, St.put_next, decide_eq_true_eq, condK_bool, stepP_some, stepA_some, stepE_some, stepE_pend, grdK_bool, grdK_undf, opPick_dec, opPick_true, opPick_false, bin_eql, bin_neq, bin_lss, bin_leq, bin_gtr, bin_geq, bin_add64, bin_sub64, bin_mul64, pendOk_nil, passed_nil, n_add, n_mul, n_and, bin_and32, bin_shr32, conv_nat, un_not, conv_64, decide_true, decide_false, true_implies, false_implies, forall_const, and_true, true_and, eq_self, ne_eq, ↓reduceIte, implies_true, Int.reduceLT, Int.reduceGT, Int.reduceLE, Int.reduceEq, Int.reduceNeg, and_self, Bool.not_eq_true, end_ret, end_nrm, endK_some, res_nil, res_tmp, res_cell1, res_cellN, resVal_one, resVal_none, resVal_two, Option.map_some, Option.bind_some, opExtract_eq, List.getElem?_cons_zero, List.getElem?_cons_succ, opNil_ptr, fld_ptr, Nat.mul_one, kbb]
    have := Add_tail hs0 hf hb ha (by omega) hy
    rw [Nat.add_comm] at this
    exact this
  · have h1 : ¬ (xs.length : Int) < ys.length := by omega
    simp only [h1, k_skip, k_seq, k_cond, k_block, k_loop, k_range, k_exit, k_scope, k_ret, k_region, c_nil, c_seq, c_blk, c_lp, e_nil, e_seq, e_blk, e_lp, r_nil, r_seq, r_blk, r_lp, o_nil, o_p, o_pg, o_l, o_a, o_c, o_cg, o_store, o_mapU, o_app, o_copy, o_del, evP, evA, ev_tmp, ev_const, ev_func, evArgs_nil, evArgs_cons, evParts_nil, evParts_cons, evOpt_none, evOpt_some, putO_some, putO_none, restrict_cons, restrict_nil, argFr_cons, argFr_nil, upd_app, Nat.reduceAdd, Nat.reduceEqDiff, Nat.zero_add, Nat.add_zero, bump_zero, St.bump_next, St.put_next, decide_eq_true_eq, condK_bool, stepP_some, stepA_some, stepE_some, stepE_pend, grdK_bool, grdK_undf, opPick_dec, opPick_true, opPick_false, bin_eql, bin_neq, bin_lss, bin_leq, bin_gtr, bin_geq, bin_add64, bin_sub64, bin_mul64, pendOk_nil, passed_nil, n_add, n_mul, n_and, bin_and32, bin_shr32, conv_nat, un_not, conv_64, decide_true, decide_false, true_implies, false_implies, forall_const, and_true, true_and, eq_self, ne_eq, ↓reduceIte, implies_true, Int.reduceLT, Int.reduceGT, Int.reduceLE, Int.reduceEq, Int.reduceNeg, and_self, Bool.not_eq_true, end_ret, end_nrm, endK_some, res_nil, res_tmp, res_cell1, res_cellN, resVal_one, resVal_none, resVal_two, Option.map_some, Option.bind_some, opExtract_eq, List.getElem?_cons_zero, List.getElem?_cons_succ, opNil_ptr, fld_ptr, Nat.mul_one, kbb]
    exact Add_tail hs0 hf ha hb (by omega) hx
end Go.Iso

namespace Go.Iso
open Go.Ev
variable {prog : Nat → Option CDecl} [A : Arith prog]

theorem stl_words (a b : Nat) : Stl 2 (.tuple ⟨[u64 a, u64 b]⟩) := stl_tuple fun v hv => by
  rcases List.mem_cons.1 hv with rfl | hv
  · exact stl_int _ _
  · rcases List.mem_singleton.1 hv with rfl
    exact stl_int _ _
theorem p_Mul64 : prog n_bits_Mul64 = some (.fn c_bits_Mul64) := A.p_Mul64
theorem p_Len64 : prog n_bits_Len64 = some (.fn c_bits_Len64) := A.p_Len64
theorem p_Div64 : prog n_bits_Div64 = some (.fn c_bits_Div64) := A.p_Div64

theorem mul_carry {p00 p10 p01 p11 : Nat} (b1 : p00 ≤ 4294967295 * 4294967295) (b2 : p10 ≤ 4294967295 * 4294967295) (b3 : p01 ≤ 4294967295 * 4294967295) (b4 : p11 ≤ 4294967295 * 4294967295) :
    ((p11 % 18446744073709551616 + (p10 % 18446744073709551616 + p00 % 18446744073709551616 / 4294967296) % 18446744073709551616 / 4294967296) % 18446744073709551616 +
      ((p10 % 18446744073709551616 + p00 % 18446744073709551616 / 4294967296) % 18446744073709551616 % 4294967296 + p01 % 18446744073709551616) % 18446744073709551616 / 4294967296) % 18446744073709551616 =
    (p11 * 18446744073709551616 + (p10 + p01) * 4294967296 + p00) / 18446744073709551616 := by
  rw [Nat.mod_eq_of_lt (show p11 < 18446744073709551616 by omega), Nat.mod_eq_of_lt (show p10 < 18446744073709551616 by omega), Nat.mod_eq_of_lt (show p01 < 18446744073709551616 by omega), Nat.mod_eq_of_lt (show p00 < 18446744073709551616 by omega)]
  rw [Nat.mod_eq_of_lt (show p10 + p00 / 4294967296 < 18446744073709551616 by omega)]
  rw [Nat.mod_eq_of_lt (show (p10 + p00 / 4294967296) % 4294967296 + p01 < 18446744073709551616 by omega)]
  rw [Nat.mod_eq_of_lt (show p11 + (p10 + p00 / 4294967296) / 4294967296 < 18446744073709551616 by omega)]
  omega
theorem mul_parts {x y : Nat} (hx : x < 18446744073709551616) (hy : y < 18446744073709551616) :
    (x / 4294967296 * (y / 4294967296)) * 18446744073709551616 + (x / 4294967296 * (y % 4294967296) + x % 4294967296 * (y / 4294967296)) * 4294967296 + x % 4294967296 * (y % 4294967296) = x * y := by
  have e1 : x = x / 4294967296 * 4294967296 + x % 4294967296 := by omega
  have e2 : y = y / 4294967296 * 4294967296 + y % 4294967296 := by omega
  generalize x / 4294967296 = x1 at *
  generalize x % 4294967296 = x0 at *
  generalize y / 4294967296 = y1 at *
  generalize y % 4294967296 = y0 at *
  rw [e1, e2, Nat.add_mul, Nat.mul_add, Nat.add_mul, Nat.add_mul]
  have a1 : x1 * 4294967296 * (y1 * 4294967296) = x1 * y1 * 18446744073709551616 := by
    rw [Nat.mul_mul_mul_comm]
  have a2 : x1 * 4294967296 * y0 = x1 * y0 * 4294967296 := by rw [Nat.mul_right_comm]
  have a3 : x0 * (y1 * 4294967296) = x0 * y1 * 4294967296 := by rw [Nat.mul_assoc]
  rw [a1, a2, a3]; omega

theorem Mul64_ret {s : St} {x y : Nat} (hx : x < 18446744073709551616) (hy : y < 18446744073709551616) :
    Ret prog (fv n_bits_Mul64) [u64 x, u64 y] s (.tuple ⟨[u64 (x * y / 18446744073709551616), u64 (x * y % 18446744073709551616)]⟩) s := by
  suffices hh : ∃ v', Ret prog (fv n_bits_Mul64) [u64 x, u64 y] s v' s ∧ v' = .tuple ⟨[u64 (x * y / 18446744073709551616), u64 (x * y % 18446744073709551616)]⟩ by
    obtain ⟨v', h1, rfl⟩ := hh; exact h1
  refine ret_pure p_Mul64 rfl (by simp [c_bits_Mul64]) fun s0 hs0 => ?_
  have b1 : x % 4294967296 * (y % 4294967296) ≤ 4294967295 * 4294967295 := Nat.mul_le_mul (by omega) (by omega)
  have b2 : x / 4294967296 * (y % 4294967296) ≤ 4294967295 * 4294967295 := Nat.mul_le_mul (by omega) (by omega)
  have b3 : x % 4294967296 * (y / 4294967296) ≤ 4294967295 * 4294967295 := Nat.mul_le_mul (by omega) (by omega)
  have b4 : x / 4294967296 * (y / 4294967296) ≤ 4294967295 * 4294967295 := Nat.mul_le_mul (by omega) (by omega)
  have := mul_carry b1 b2 b3 b4
  rw [mul_parts hx hy] at this
  simp (disch := omega) only [c_bits_Mul64, k_skip, k_seq, k_cond, k_block, k_loop, k_range, k_exit, k_scope, k_ret, k_region, c_nil, c_seq, c_blk, c_lp, e_nil, e_seq, e_blk, e_lp, r_nil, r_seq, r_blk, r_lp, o_nil, o_p, o_pg, o_l, o_a, o_c, o_cg, o_store, o_mapU, o_app, o_copy, o_del, evP, evA, ev_tmp, ev_const, ev_func, evArgs_nil, evArgs_cons, evParts_nil, evParts_cons, evOpt_none, evOpt_some, putO_some, putO_none, restrict_cons, restrict_nil, argFr_cons, argFr_nil, upd_app, Nat.reduceAdd, Nat.reduceEqDiff, Nat.zero_add, Nat.add_zero, bump_zero, St.bump_next, St.put_next, decide_eq_true_eq, condK_bool, stepP_some, stepA_some, stepE_some, stepE_pend, grdK_bool, grdK_undf, opPick_dec, opPick_true, opPick_false, bin_eql, bin_neq, bin_lss, bin_leq, bin_gtr, bin_geq, bin_add64, bin_sub64, bin_mul64, pendOk_nil, passed_nil, n_add, n_mul, n_and, bin_and32, bin_shr32, conv_nat, un_not, conv_64, decide_true, decide_false, true_implies, false_implies, forall_const, and_true, true_and, eq_self, ne_eq, ↓reduceIte, implies_true, Int.reduceLT, Int.reduceGT, Int.reduceLE, Int.reduceEq, Int.reduceNeg, and_self, Bool.not_eq_true, end_ret, end_nrm, endK_some, res_nil, res_tmp, res_cell1, res_cellN, resVal_one, resVal_none, resVal_two, Option.map_some, Option.bind_some, opExtract_eq, List.getElem?_cons_zero, List.getElem?_cons_succ, opNil_ptr, fld_ptr, Nat.mul_one, kbb]
  exact ⟨_, stl_words _ _ _ _ _ (by omega), by rw [this]⟩

theorem Div64_ret {s : St} {lo y : Nat} (hlo : lo < 18446744073709551616) (hy : y < 18446744073709551616) (h0 : y ≠ 0) :
    Ret prog (fv n_bits_Div64) [u64 0, u64 lo, u64 y] s (.tuple ⟨[u64 (lo / y), u64 (lo % y)]⟩) s := by
  suffices hh : ∃ v', Ret prog (fv n_bits_Div64) [u64 0, u64 lo, u64 y] s v' s ∧ v' = .tuple ⟨[u64 (lo / y), u64 (lo % y)]⟩ by
    obtain ⟨v', h1, rfl⟩ := hh; exact h1
  refine ret_pure p_Div64 rfl (by simp [c_bits_Div64]) fun s0 hs0 => ?_
  have h1 : ¬ (y : Int) = 0 := by omega
  have h2 : ¬ (y : Int) ≤ ((0 : Nat) : Int) := by omega
  have h3 : (((0 : Nat) : Int) = 0) = True := eq_true rfl
  simp (disch := omega) only [c_bits_Div64, c_bits_Div64_r1, c_bits_Div64_r0, n_quo, n_rem, h1, h2, h3, k_skip, k_seq, k_cond, k_block, k_loop, k_range, k_exit, k_scope, k_ret, k_region, c_nil, c_seq, c_blk, c_lp, e_nil, e_seq, e_blk, e_lp, r_nil, r_seq, r_blk, r_lp, o_nil, o_p, o_pg, o_l, o_a, o_c, o_cg, o_store, o_mapU, o_app, o_copy, o_del, evP, evA, ev_tmp, ev_const, ev_func, evArgs_nil, evArgs_cons, evParts_nil, evParts_cons, evOpt_none, evOpt_some, putO_some, putO_none, restrict_cons, restrict_nil, argFr_cons, argFr_nil, upd_app, Nat.reduceAdd, Nat.reduceEqDiff, Nat.zero_add, Nat.add_zero, bump_zero, St.bump_next, St.put_next, decide_eq_true_eq, condK_bool, stepP_some, stepA_some, stepE_some, stepE_pend, grdK_bool, grdK_undf, opPick_dec, opPick_true, opPick_false, bin_eql, bin_neq, bin_lss, bin_leq, bin_gtr, bin_geq, bin_add64, bin_sub64, bin_mul64, pendOk_nil, passed_nil, n_add, n_mul, n_and, bin_and32, bin_shr32, conv_nat, un_not, conv_64, decide_true, decide_false, true_implies, false_implies, forall_const, and_true, true_and, eq_self, ne_eq, ↓reduceIte, implies_true, Int.reduceLT, Int.reduceGT, Int.reduceLE, Int.reduceEq, Int.reduceNeg, and_self, Bool.not_eq_true, end_ret, end_nrm, endK_some, res_nil, res_tmp, res_cell1, res_cellN, resVal_one, resVal_none, resVal_two, Option.map_some, Option.bind_some, opExtract_eq, List.getElem?_cons_zero, List.getElem?_cons_succ, opNil_ptr, fld_ptr, Nat.mul_one, kbb]
  exact ⟨_, stl_words _ _ _ _ _ (by omega), rfl⟩

/-- How many bits. -/
def blen (n : Nat) : Nat := if n = 0 then 0 else n.log2 + 1
theorem blen_shift {n k : Nat} (h : 2 ^ k ≤ n) : blen n = blen (n / 2 ^ k) + k := by
  have hp : 0 < 2 ^ k := Nat.pow_pos (by omega)
  have h1 : n ≠ 0 := by omega
  have h2 : n / 2 ^ k ≠ 0 := by
    have := Nat.div_pos h hp
    omega
  rw [blen, if_neg h1, blen, if_neg h2]
  have a1 := Nat.log2_self_le h2
  have a2 := Nat.lt_log2_self (n := n / 2 ^ k)
  generalize (n / 2 ^ k).log2 = m at *
  have b1 : 2 ^ (m + k) ≤ n := by
    rw [Nat.pow_add]
    exact Nat.le_trans (Nat.mul_le_mul_right _ a1) (Nat.div_mul_le_self _ _)
  have b2 : n < 2 ^ (m + k + 1) := by
    have := (Nat.div_lt_iff_lt_mul hp).1 a2
    rw [← Nat.pow_add] at this
    rwa [show m + k + 1 = m + 1 + k by omega]
  have c1 := (Nat.le_log2 h1).2 b1
  have c2 := (Nat.log2_lt h1).2 b2
  omega
theorem blen_zero : blen 0 = 0 := rfl
theorem blen_lt (n : Nat) : n < 2 ^ blen n := by
  rw [blen]
  by_cases h : n = 0
  · subst h; simp
  · rw [if_neg h]; exact Nat.lt_log2_self
theorem blen_le {n k : Nat} (h : n < 2 ^ k) : blen n ≤ k := by
  rw [blen]
  by_cases h0 : n = 0
  · rw [if_pos h0]; omega
  · rw [if_neg h0]; exact (Nat.log2_lt h0).2 h
theorem blen_pos {n : Nat} (h : n ≠ 0) : 1 ≤ blen n := by rw [blen, if_neg h]; omega

def lenTab : Value := .string ⟨#[0, 1, 2, 2, 3, 3, 3, 3, 4, 4, 4, 4, 4, 4, 4, 4, 5, 5, 5, 5, 5, 5, 5, 5, 5, 5, 5, 5, 5, 5, 5, 5, 6, 6, 6, 6, 6, 6, 6, 6, 6, 6, 6, 6, 6, 6, 6, 6, 6, 6, 6, 6, 6, 6, 6, 6, 6, 6, 6, 6, 6, 6, 6, 6, 7, 7, 7, 7, 7, 7, 7, 7, 7, 7, 7, 7, 7, 7, 7, 7, 7, 7, 7, 7, 7, 7, 7, 7, 7, 7, 7, 7, 7, 7, 7, 7, 7, 7, 7, 7, 7, 7, 7, 7, 7, 7, 7, 7, 7, 7, 7, 7, 7, 7, 7, 7, 7, 7, 7, 7, 7, 7, 7, 7, 7, 7, 7, 7, 8, 8, 8, 8, 8, 8, 8, 8, 8, 8, 8, 8, 8, 8, 8, 8, 8, 8, 8, 8, 8, 8, 8, 8, 8, 8, 8, 8, 8, 8, 8, 8, 8, 8, 8, 8, 8, 8, 8, 8, 8, 8, 8, 8, 8, 8, 8, 8, 8, 8, 8, 8, 8, 8, 8, 8, 8, 8, 8, 8, 8, 8, 8, 8, 8, 8, 8, 8, 8, 8, 8, 8, 8, 8, 8, 8, 8, 8, 8, 8, 8, 8, 8, 8, 8, 8, 8, 8, 8, 8, 8, 8, 8, 8, 8, 8, 8, 8, 8, 8, 8, 8, 8, 8, 8, 8, 8, 8, 8, 8, 8, 8, 8, 8, 8, 8, 8, 8, 8, 8, 8, 8, 8, 8, 8, 8, 8, 8]⟩
def isU8 : Option Value → Nat → Bool
  | some (.int .u8 (.ofNat m)), n => Nat.beq m n
  | _, _ => false
theorem isU8_eq {v : Option Value} {n : Nat} (h : isU8 v n = true) : v = some (.int .u8 (n : Int)) := by
  unfold isU8 at h
  split at h
  · rw [Nat.eq_of_beq_eq_true h]; rfl
  · cases h
theorem lenTab_all : (List.range 256).all (fun n => isU8 (opIndexS lenTab (.int .u8 (n : Int))) (blen n)) = true := by decide +kernel
theorem lenTab_at {n : Nat} (h : n < 256) : opIndexS lenTab (.int .u8 (n : Int)) = some (.int .u8 (blen n : Int)) :=
  isU8_eq (List.all_eq_true.1 lenTab_all n (List.mem_range.2 h))
def lenCode (v : Value) : CCode :=
  (.seq
    (.region 0 [2] [
      o 19 (.p (.move (t 2))),
      o 20 (.p (.move (t 0))),
      o 21 (.p (.conv .u8 (t 20))),
      o 22 (.p (.indexS (.const v) (t 21))),
      o 23 (.p (.conv .i64 (t 22))),
      o 24 (.p (.bin .add (t 19) (t 23))),
      o 2 (.p (.move (t 24)))])
    .ret)
theorem lenCode_eq : c_bits_Len64_r0 = lenCode lenTab := rfl

theorem Len64_ret {s : St} {x : Nat} (hx : x < 18446744073709551616) : Ret prog (fv n_bits_Len64) [u64 x] s (i64 (blen x)) s := by
  suffices hh : ∃ v', Ret prog (fv n_bits_Len64) [u64 x] s v' s ∧ v' = i64 (blen x) by
    obtain ⟨v', h1, rfl⟩ := hh; exact h1
  refine ret_pure p_Len64 rfl (by simp [c_bits_Len64]) fun s0 hs0 => ?_
  have hst : ∀ n : Int, settle s0.get s.next 8 (i64 n) = some (i64 n) := fun n => stl_int _ _ _ _ _ (by omega)
  have hend : ∀ (y n : Nat) (G : Fr), y < 256 → n ≤ 64 → blen x = blen y + n →
      wpK prog c_bits_Len64_r0 (upd (upd G 2 (i64 n)) 0 (u64 y)) s0 [] (wpEnd [.tmp 2] fun v s' => ∃ v', settle s'.get s.next 8 v = some v' ∧ v' = i64 (blen x)) := by
    intro y n G hy hn he
    have ht := lenTab_at hy
    rw [lenCode_eq]
    have hb := blen_le (n := y) (k := 8) hy
    have hm : y % 256 = y := by omega
    simp (disch := omega) only [lenCode, k_skip, k_seq, k_cond, k_block, k_loop, k_range, k_exit, k_scope, k_ret, k_region, c_nil, c_seq, c_blk, c_lp, e_nil, e_seq, e_blk, e_lp, r_nil, r_seq, r_blk, r_lp, o_nil, o_p, o_pg, o_l, o_a, o_c, o_cg, o_store, o_mapU, o_app, o_copy, o_del, evP, evA, ev_tmp, ev_const, ev_func, evArgs_nil, evArgs_cons, evParts_nil, evParts_cons, evOpt_none, evOpt_some, putO_some, putO_none, restrict_cons, restrict_nil, argFr_cons, argFr_nil, upd_app, Nat.reduceAdd, Nat.reduceEqDiff, Nat.zero_add, Nat.add_zero, bump_zero, St.bump_next, St.put_next, decide_eq_true_eq, condK_bool, stepP_some, stepA_some, stepE_some, stepE_pend, grdK_bool, grdK_undf, opPick_dec, opPick_true, opPick_false, bin_eql, bin_neq, bin_lss, bin_leq, bin_gtr, bin_geq, bin_add64, bin_sub64, bin_mul64, pendOk_nil, passed_nil, n_add, n_mul, n_and, bin_and32, bin_shr32, conv_nat, un_not, conv_64, decide_true, decide_false, true_implies, false_implies, forall_const, and_true, true_and, eq_self, ne_eq, ↓reduceIte, implies_true, Int.reduceLT, Int.reduceGT, Int.reduceLE, Int.reduceEq, Int.reduceNeg, and_self, Bool.not_eq_true, end_ret, end_nrm, endK_some, res_nil, res_tmp, res_cell1, res_cellN, resVal_one, resVal_none, resVal_two, Option.map_some, Option.bind_some, opExtract_eq, List.getElem?_cons_zero, List.getElem?_cons_succ, opNil_ptr, fld_ptr, Nat.mul_one, kbb, conv_u8, hm, ht]
    exact ⟨_, hst _, by congr 1; omega⟩
  have h8 : ∀ (y n : Nat) (G : Fr), y < 65536 → n ≤ 56 → blen x = blen y + n →
      wpK prog c_bits_Len64_r1 (upd (upd G 2 (i64 n)) 0 (u64 y)) s0 [] (wpEnd [.tmp 2] fun v s' => ∃ v', settle s'.get s.next 8 v = some v' ∧ v' = i64 (blen x)) := by
    intro y n G hy hn he
    simp only [c_bits_Len64_r1, k_skip, k_seq, k_cond, k_block, k_loop, k_range, k_exit, k_scope, k_ret, k_region, c_nil, c_seq, c_blk, c_lp, e_nil, e_seq, e_blk, e_lp, r_nil, r_seq, r_blk, r_lp, o_nil, o_p, o_pg, o_l, o_a, o_c, o_cg, o_store, o_mapU, o_app, o_copy, o_del, evP, evA, ev_tmp, ev_const, ev_func, evArgs_nil, evArgs_cons, evParts_nil, evParts_cons, evOpt_none, evOpt_some, putO_some, putO_none, restrict_cons, restrict_nil, argFr_cons, argFr_nil, upd_app, Nat.reduceAdd, Nat.reduceEqDiff, Nat.zero_add, Nat.add_zero, bump_zero, St.bump_next, St.put_next, decide_eq_true_eq, condK_bool, stepP_some, stepA_some, stepE_some, stepE_pend, grdK_bool, grdK_undf, opPick_dec, opPick_true, opPick_false, bin_eql, bin_neq, bin_lss, bin_leq, bin_gtr, bin_geq, bin_add64, bin_sub64, bin_mul64, pendOk_nil, passed_nil, n_add, n_mul, n_and, bin_and32, bin_shr32, conv_nat, un_not, conv_64, decide_true, decide_false, true_implies, false_implies, forall_const, and_true, true_and, eq_self, ne_eq, ↓reduceIte, implies_true, Int.reduceLT, Int.reduceGT, Int.reduceLE, Int.reduceEq, Int.reduceNeg, and_self, Bool.not_eq_true, end_ret, end_nrm, endK_some, res_nil, res_tmp, res_cell1, res_cellN, resVal_one, resVal_none, resVal_two, Option.map_some, Option.bind_some, opExtract_eq, List.getElem?_cons_zero, List.getElem?_cons_succ, opNil_ptr, fld_ptr, Nat.mul_one, kbb]
    by_cases h : 256 ≤ y
    · have h1 : (y : Int) ≥ 256 := by omega
      have h2 : (n : Int) + 8 = (n + 8 : Nat) := by omega
      simp (disch := omega) only [h1, k_skip, k_seq, k_cond, k_block, k_loop, k_range, k_exit, k_scope, k_ret, k_region, c_nil, c_seq, c_blk, c_lp, e_nil, e_seq, e_blk, e_lp, r_nil, r_seq, r_blk, r_lp, o_nil, o_p, o_pg, o_l, o_a, o_c, o_cg, o_store, o_mapU, o_app, o_copy, o_del, evP, evA, ev_tmp, ev_const, ev_func, evArgs_nil, evArgs_cons, evParts_nil, evParts_cons, evOpt_none, evOpt_some, putO_some, putO_none, restrict_cons, restrict_nil, argFr_cons, argFr_nil, upd_app, Nat.reduceAdd, Nat.reduceEqDiff, Nat.zero_add, Nat.add_zero, bump_zero, St.bump_next, St.put_next, decide_eq_true_eq, condK_bool, stepP_some, stepA_some, stepE_some, stepE_pend, grdK_bool, grdK_undf, opPick_dec, opPick_true, opPick_false, bin_eql, bin_neq, bin_lss, bin_leq, bin_gtr, bin_geq, bin_add64, bin_sub64, bin_mul64, pendOk_nil, passed_nil, n_add, n_mul, n_and, bin_and32, bin_shr32, conv_nat, un_not, conv_64, decide_true, decide_false, true_implies, false_implies, forall_const, and_true, true_and, eq_self, ne_eq, ↓reduceIte, implies_true, Int.reduceLT, Int.reduceGT, Int.reduceLE, Int.reduceEq, Int.reduceNeg, and_self, Bool.not_eq_true, end_ret, end_nrm, endK_some, res_nil, res_tmp, res_cell1, res_cellN, resVal_one, resVal_none, resVal_two, Option.map_some, Option.bind_some, opExtract_eq, List.getElem?_cons_zero, List.getElem?_cons_succ, opNil_ptr, fld_ptr, Nat.mul_one, kbb, bin_shr8, h2]
      refine hend (y / 256) (n + 8) _ (by omega) (by omega) ?_
      have : blen y = blen (y / 256) + 8 := blen_shift (n := y) (k := 8) h
      omega
    · have h1 : ¬ (y : Int) ≥ 256 := by omega
      simp (disch := omega) only [h1, k_skip, k_seq, k_cond, k_block, k_loop, k_range, k_exit, k_scope, k_ret, k_region, c_nil, c_seq, c_blk, c_lp, e_nil, e_seq, e_blk, e_lp, r_nil, r_seq, r_blk, r_lp, o_nil, o_p, o_pg, o_l, o_a, o_c, o_cg, o_store, o_mapU, o_app, o_copy, o_del, evP, evA, ev_tmp, ev_const, ev_func, evArgs_nil, evArgs_cons, evParts_nil, evParts_cons, evOpt_none, evOpt_some, putO_some, putO_none, restrict_cons, restrict_nil, argFr_cons, argFr_nil, upd_app, Nat.reduceAdd, Nat.reduceEqDiff, Nat.zero_add, Nat.add_zero, bump_zero, St.bump_next, St.put_next, decide_eq_true_eq, condK_bool, stepP_some, stepA_some, stepE_some, stepE_pend, grdK_bool, grdK_undf, opPick_dec, opPick_true, opPick_false, bin_eql, bin_neq, bin_lss, bin_leq, bin_gtr, bin_geq, bin_add64, bin_sub64, bin_mul64, pendOk_nil, passed_nil, n_add, n_mul, n_and, bin_and32, bin_shr32, conv_nat, un_not, conv_64, decide_true, decide_false, true_implies, false_implies, forall_const, and_true, true_and, eq_self, ne_eq, ↓reduceIte, implies_true, Int.reduceLT, Int.reduceGT, Int.reduceLE, Int.reduceEq, Int.reduceNeg, and_self, Bool.not_eq_true, end_ret, end_nrm, endK_some, res_nil, res_tmp, res_cell1, res_cellN, resVal_one, resVal_none, resVal_two, Option.map_some, Option.bind_some, opExtract_eq, List.getElem?_cons_zero, List.getElem?_cons_succ, opNil_ptr, fld_ptr, Nat.mul_one, kbb]
      exact hend y n _ (by omega) (by omega) he
  have h16 : ∀ (y n : Nat) (G : Fr), y < 4294967296 → n ≤ 32 → blen x = blen y + n →
      wpK prog c_bits_Len64_r2 (upd (upd G 2 (i64 n)) 0 (u64 y)) s0 [] (wpEnd [.tmp 2] fun v s' => ∃ v', settle s'.get s.next 8 v = some v' ∧ v' = i64 (blen x)) := by
    intro y n G hy hn he
    simp only [c_bits_Len64_r2, k_skip, k_seq, k_cond, k_block, k_loop, k_range, k_exit, k_scope, k_ret, k_region, c_nil, c_seq, c_blk, c_lp, e_nil, e_seq, e_blk, e_lp, r_nil, r_seq, r_blk, r_lp, o_nil, o_p, o_pg, o_l, o_a, o_c, o_cg, o_store, o_mapU, o_app, o_copy, o_del, evP, evA, ev_tmp, ev_const, ev_func, evArgs_nil, evArgs_cons, evParts_nil, evParts_cons, evOpt_none, evOpt_some, putO_some, putO_none, restrict_cons, restrict_nil, argFr_cons, argFr_nil, upd_app, Nat.reduceAdd, Nat.reduceEqDiff, Nat.zero_add, Nat.add_zero, bump_zero, St.bump_next, St.put_next, decide_eq_true_eq, condK_bool, stepP_some, stepA_some, stepE_some, stepE_pend, grdK_bool, grdK_undf, opPick_dec, opPick_true, opPick_false, bin_eql, bin_neq, bin_lss, bin_leq, bin_gtr, bin_geq, bin_add64, bin_sub64, bin_mul64, pendOk_nil, passed_nil, n_add, n_mul, n_and, bin_and32, bin_shr32, conv_nat, un_not, conv_64, decide_true, decide_false, true_implies, false_implies, forall_const, and_true, true_and, eq_self, ne_eq, ↓reduceIte, implies_true, Int.reduceLT, Int.reduceGT, Int.reduceLE, Int.reduceEq, Int.reduceNeg, and_self, Bool.not_eq_true, end_ret, end_nrm, endK_some, res_nil, res_tmp, res_cell1, res_cellN, resVal_one, resVal_none, resVal_two, Option.map_some, Option.bind_some, opExtract_eq, List.getElem?_cons_zero, List.getElem?_cons_succ, opNil_ptr, fld_ptr, Nat.mul_one, kbb]
    by_cases h : 65536 ≤ y
    · have h1 : (y : Int) ≥ 65536 := by omega
      have h2 : (n : Int) + 16 = (n + 16 : Nat) := by omega
      simp (disch := omega) only [h1, k_skip, k_seq, k_cond, k_block, k_loop, k_range, k_exit, k_scope, k_ret, k_region, c_nil, c_seq, c_blk, c_lp, e_nil, e_seq, e_blk, e_lp, r_nil, r_seq, r_blk, r_lp, o_nil, o_p, o_pg, o_l, o_a, o_c, o_cg, o_store, o_mapU, o_app, o_copy, o_del, evP, evA, ev_tmp, ev_const, ev_func, evArgs_nil, evArgs_cons, evParts_nil, evParts_cons, evOpt_none, evOpt_some, putO_some, putO_none, restrict_cons, restrict_nil, argFr_cons, argFr_nil, upd_app, Nat.reduceAdd, Nat.reduceEqDiff, Nat.zero_add, Nat.add_zero, bump_zero, St.bump_next, St.put_next, decide_eq_true_eq, condK_bool, stepP_some, stepA_some, stepE_some, stepE_pend, grdK_bool, grdK_undf, opPick_dec, opPick_true, opPick_false, bin_eql, bin_neq, bin_lss, bin_leq, bin_gtr, bin_geq, bin_add64, bin_sub64, bin_mul64, pendOk_nil, passed_nil, n_add, n_mul, n_and, bin_and32, bin_shr32, conv_nat, un_not, conv_64, decide_true, decide_false, true_implies, false_implies, forall_const, and_true, true_and, eq_self, ne_eq, ↓reduceIte, implies_true, Int.reduceLT, Int.reduceGT, Int.reduceLE, Int.reduceEq, Int.reduceNeg, and_self, Bool.not_eq_true, end_ret, end_nrm, endK_some, res_nil, res_tmp, res_cell1, res_cellN, resVal_one, resVal_none, resVal_two, Option.map_some, Option.bind_some, opExtract_eq, List.getElem?_cons_zero, List.getElem?_cons_succ, opNil_ptr, fld_ptr, Nat.mul_one, kbb, bin_shr16, h2]
      refine h8 (y / 65536) (n + 16) _ (by omega) (by omega) ?_
      have : blen y = blen (y / 65536) + 16 := blen_shift (n := y) (k := 16) h
      omega
    · have h1 : ¬ (y : Int) ≥ 65536 := by omega
      simp (disch := omega) only [h1, k_skip, k_seq, k_cond, k_block, k_loop, k_range, k_exit, k_scope, k_ret, k_region, c_nil, c_seq, c_blk, c_lp, e_nil, e_seq, e_blk, e_lp, r_nil, r_seq, r_blk, r_lp, o_nil, o_p, o_pg, o_l, o_a, o_c, o_cg, o_store, o_mapU, o_app, o_copy, o_del, evP, evA, ev_tmp, ev_const, ev_func, evArgs_nil, evArgs_cons, evParts_nil, evParts_cons, evOpt_none, evOpt_some, putO_some, putO_none, restrict_cons, restrict_nil, argFr_cons, argFr_nil, upd_app, Nat.reduceAdd, Nat.reduceEqDiff, Nat.zero_add, Nat.add_zero, bump_zero, St.bump_next, St.put_next, decide_eq_true_eq, condK_bool, stepP_some, stepA_some, stepE_some, stepE_pend, grdK_bool, grdK_undf, opPick_dec, opPick_true, opPick_false, bin_eql, bin_neq, bin_lss, bin_leq, bin_gtr, bin_geq, bin_add64, bin_sub64, bin_mul64, pendOk_nil, passed_nil, n_add, n_mul, n_and, bin_and32, bin_shr32, conv_nat, un_not, conv_64, decide_true, decide_false, true_implies, false_implies, forall_const, and_true, true_and, eq_self, ne_eq, ↓reduceIte, implies_true, Int.reduceLT, Int.reduceGT, Int.reduceLE, Int.reduceEq, Int.reduceNeg, and_self, Bool.not_eq_true, end_ret, end_nrm, endK_some, res_nil, res_tmp, res_cell1, res_cellN, resVal_one, resVal_none, resVal_two, Option.map_some, Option.bind_some, opExtract_eq, List.getElem?_cons_zero, List.getElem?_cons_succ, opNil_ptr, fld_ptr, Nat.mul_one, kbb]
      exact h8 y n _ (by omega) (by omega) he
  simp only [c_bits_Len64, k_skip, k_seq, k_cond, k_block, k_loop, k_range, k_exit, k_scope, k_ret, k_region, c_nil, c_seq, c_blk, c_lp, e_nil, e_seq, e_blk, e_lp, r_nil, r_seq, r_blk, r_lp, o_nil, o_p, o_pg, o_l, o_a, o_c, o_cg, o_store, o_mapU, o_app, o_copy, o_del, evP, evA, ev_tmp, ev_const, ev_func, evArgs_nil, evArgs_cons, evParts_nil, evParts_cons, evOpt_none, evOpt_some, putO_some, putO_none, restrict_cons, restrict_nil, argFr_cons, argFr_nil, upd_app, Nat.reduceAdd, Nat.reduceEqDiff, Nat.zero_add, Nat.add_zero, bump_zero, St.bump_next, St.put_next, decide_eq_true_eq, condK_bool, stepP_some, stepA_some, stepE_some, stepE_pend, grdK_bool, grdK_undf, opPick_dec, opPick_true, opPick_false, bin_eql, bin_neq, bin_lss, bin_leq, bin_gtr, bin_geq, bin_add64, bin_sub64, bin_mul64, pendOk_nil, passed_nil, n_add, n_mul, n_and, bin_and32, bin_shr32, conv_nat, un_not, conv_64, decide_true, decide_false, true_implies, false_implies, forall_const, and_true, true_and, eq_self, ne_eq, ↓reduceIte, implies_true, Int.reduceLT, Int.reduceGT, Int.reduceLE, Int.reduceEq, Int.reduceNeg, and_self, Bool.not_eq_true, end_ret, end_nrm, endK_some, res_nil, res_tmp, res_cell1, res_cellN, resVal_one, resVal_none, resVal_two, Option.map_some, Option.bind_some, opExtract_eq, List.getElem?_cons_zero, List.getElem?_cons_succ, opNil_ptr, fld_ptr, Nat.mul_one, kbb]
  by_cases h : 4294967296 ≤ x
  · have h1 : (x : Int) ≥ 4294967296 := by omega
    simp (disch := omega) only [h1, k_skip, k_seq, k_cond, k_block, k_loop, k_range, k_exit, k_scope, k_ret, k_region, c_nil, c_seq, c_blk, c_lp, e_nil, e_seq, e_blk, e_lp, r_nil, r_seq, r_blk, r_lp, o_nil, o_p, o_pg, o_l, o_a, o_c, o_cg, o_store, o_mapU, o_app, o_copy, o_del, evP, evA, ev_tmp, ev_const, ev_func, evArgs_nil, evArgs_cons, evParts_nil, evParts_cons, evOpt_none, evOpt_some, putO_some, putO_none, restrict_cons, restrict_nil, argFr_cons, argFr_nil, upd_app, Nat.reduceAdd, Nat.reduceEqDiff, Nat.zero_add, Nat.add_zero, bump_zero, St.bump_next, St.put_next, decide_eq_true_eq, condK_bool, stepP_some, stepA_some, stepE_some, stepE_pend, grdK_bool, grdK_undf, opPick_dec, opPick_true, opPick_false, bin_eql, bin_neq, bin_lss, bin_leq, bin_gtr, bin_geq, bin_add64, bin_sub64, bin_mul64, pendOk_nil, passed_nil, n_add, n_mul, n_and, bin_and32, bin_shr32, conv_nat, un_not, conv_64, decide_true, decide_false, true_implies, false_implies, forall_const, and_true, true_and, eq_self, ne_eq, ↓reduceIte, implies_true, Int.reduceLT, Int.reduceGT, Int.reduceLE, Int.reduceEq, Int.reduceNeg, and_self, Bool.not_eq_true, end_ret, end_nrm, endK_some, res_nil, res_tmp, res_cell1, res_cellN, resVal_one, resVal_none, resVal_two, Option.map_some, Option.bind_some, opExtract_eq, List.getElem?_cons_zero, List.getElem?_cons_succ, opNil_ptr, fld_ptr, Nat.mul_one, kbb]
    refine h16 (x / 4294967296) 32 _ (by omega) (by omega) ?_
    exact blen_shift (n := x) (k := 32) h
  · have h1 : ¬ (x : Int) ≥ 4294967296 := by omega
    simp (disch := omega) only [h1, k_skip, k_seq, k_cond, k_block, k_loop, k_range, k_exit, k_scope, k_ret, k_region, c_nil, c_seq, c_blk, c_lp, e_nil, e_seq, e_blk, e_lp, r_nil, r_seq, r_blk, r_lp, o_nil, o_p, o_pg, o_l, o_a, o_c, o_cg, o_store, o_mapU, o_app, o_copy, o_del, evP, evA, ev_tmp, ev_const, ev_func, evArgs_nil, evArgs_cons, evParts_nil, evParts_cons, evOpt_none, evOpt_some, putO_some, putO_none, restrict_cons, restrict_nil, argFr_cons, argFr_nil, upd_app, Nat.reduceAdd, Nat.reduceEqDiff, Nat.zero_add, Nat.add_zero, bump_zero, St.bump_next, St.put_next, decide_eq_true_eq, condK_bool, stepP_some, stepA_some, stepE_some, stepE_pend, grdK_bool, grdK_undf, opPick_dec, opPick_true, opPick_false, bin_eql, bin_neq, bin_lss, bin_leq, bin_gtr, bin_geq, bin_add64, bin_sub64, bin_mul64, pendOk_nil, passed_nil, n_add, n_mul, n_and, bin_and32, bin_shr32, conv_nat, un_not, conv_64, decide_true, decide_false, true_implies, false_implies, forall_const, and_true, true_and, eq_self, ne_eq, ↓reduceIte, implies_true, Int.reduceLT, Int.reduceGT, Int.reduceLE, Int.reduceEq, Int.reduceNeg, and_self, Bool.not_eq_true, end_ret, end_nrm, endK_some, res_nil, res_tmp, res_cell1, res_cellN, resVal_one, resVal_none, resVal_two, Option.map_some, Option.bind_some, opExtract_eq, List.getElem?_cons_zero, List.getElem?_cons_succ, opNil_ptr, fld_ptr, Nat.mul_one, kbb]
    exact h16 x 0 _ (by omega) (by omega) rfl
end Go.Iso

namespace Go.Iso
open Go.Ev
variable {prog : Nat → Option CDecl} [A : Arith prog]

theorem p_Len : prog n_mag_Len = some (.fn c_mag_Len) := A.p_Len
theorem p_Sub : prog n_mag_Sub = some (.fn c_mag_Sub) := A.p_Sub
theorem p_Mul : prog n_mag_Mul = some (.fn c_mag_Mul) := A.p_Mul

/-- How many bits, of words. -/
def nlen (n : Nat) : Nat := if wsz n = 0 then 0 else 64 * (wsz n - 1) + blen ((words n).getD (wsz n - 1) 0)
theorem nlen_zero {n : Nat} : nlen n = 0 ↔ n = 0 := by
  unfold nlen
  constructor
  · intro h
    by_cases h0 : n = 0
    · exact h0
    · exfalso
      have := wsz_pos h0
      rw [if_neg (by omega)] at h
      have h1 : blen ((words n).getD (wsz n - 1) 0) = 0 := by omega
      rcases words_last n with h2 | h2
      · unfold wsz at this; rw [h2] at this; simp at this
      · have h3 : (words n).getLastD 0 = (words n).getD (wsz n - 1) 0 := by
          have := getLastD_take (ws := words n) (m := wsz n - 1) (by unfold wsz at *; omega)
          rw [← this, List.take_of_length_le (by unfold wsz at *; omega)]
        rw [h3] at h2
        have := blen_pos h2
        omega
  · intro h; subst h; rfl

theorem Len_ret {s : St} {a : Value} {xs : List Nat} (ha : MagV s a xs) : Ret prog (fv n_mag_Len) [a] s (i64 (nlen (val xs))) s := by
  suffices hh : ∃ v', Ret prog (fv n_mag_Len) [a] s v' s ∧ v' = i64 (nlen (val xs)) by
    obtain ⟨v', h1, rfl⟩ := hh; exact h1
  refine ret_pure p_Len rfl (by simp [c_mag_Len]) fun s0 hs0 => ?_
  have hL : Later s s0 := by subst hs0; exact Later.callee s
  have hst : ∀ n : Int, settle s0.get s.next 8 (i64 n) = some (i64 n) := fun n => stl_int _ _ _ _ _ (by omega)
  have hzx := wsz_val ha.wd
  have h1 := ha.len
  simp only [c_mag_Len, k_skip, k_seq, k_cond, k_block, k_loop, k_range, k_exit, k_scope, k_ret, k_region, c_nil, c_seq, c_blk, c_lp, e_nil, e_seq, e_blk, e_lp, r_nil, r_seq, r_blk, r_lp, o_nil, o_p, o_pg, o_l, o_a, o_c, o_cg, o_store, o_mapU, o_app, o_copy, o_del, evP, evA, ev_tmp, ev_const, ev_func, evArgs_nil, evArgs_cons, evParts_nil, evParts_cons, evOpt_none, evOpt_some, putO_some, putO_none, restrict_cons, restrict_nil, argFr_cons, argFr_nil, upd_app, Nat.reduceAdd, Nat.reduceEqDiff, Nat.zero_add, Nat.add_zero, bump_zero, St.bump_next, St.put_next, decide_eq_true_eq, condK_bool, stepP_some, stepA_some, stepE_some, stepE_pend, grdK_bool, grdK_undf, opPick_dec, opPick_true, opPick_false, bin_eql, bin_neq, bin_lss, bin_leq, bin_gtr, bin_geq, bin_add64, bin_sub64, bin_mul64, pendOk_nil, passed_nil, n_add, n_mul, n_and, bin_and32, bin_shr32, conv_nat, un_not, conv_64, decide_true, decide_false, true_implies, false_implies, forall_const, and_true, true_and, eq_self, ne_eq, ↓reduceIte, implies_true, Int.reduceLT, Int.reduceGT, Int.reduceLE, Int.reduceEq, Int.reduceNeg, and_self, Bool.not_eq_true, end_ret, end_nrm, endK_some, res_nil, res_tmp, res_cell1, res_cellN, resVal_one, resVal_none, resVal_two, Option.map_some, Option.bind_some, opExtract_eq, List.getElem?_cons_zero, List.getElem?_cons_succ, opNil_ptr, fld_ptr, Nat.mul_one, kbb]
  refine callK.of0 (right_ret (ha.later hL)) ?_
  have ra := (ha.row.sub (l := 0) (m := wsz (val xs)) (by omega) (by rw [W_len]; omega)) s0 hL
  rw [List.drop_zero, W_take, take_words ha.wd] at ra
  generalize sub 1 a 0 (wsz (val xs)) = a' at *
  have la := ra.len
  rw [W_len, show (words (val xs)).length = wsz (val xs) from rfl] at la
  simp only [k_skip, k_seq, k_cond, k_block, k_loop, k_range, k_exit, k_scope, k_ret, k_region, c_nil, c_seq, c_blk, c_lp, e_nil, e_seq, e_blk, e_lp, r_nil, r_seq, r_blk, r_lp, o_nil, o_p, o_pg, o_l, o_a, o_c, o_cg, o_store, o_mapU, o_app, o_copy, o_del, evP, evA, ev_tmp, ev_const, ev_func, evArgs_nil, evArgs_cons, evParts_nil, evParts_cons, evOpt_none, evOpt_some, putO_some, putO_none, restrict_cons, restrict_nil, argFr_cons, argFr_nil, upd_app, Nat.reduceAdd, Nat.reduceEqDiff, Nat.zero_add, Nat.add_zero, bump_zero, St.bump_next, St.put_next, decide_eq_true_eq, condK_bool, stepP_some, stepA_some, stepE_some, stepE_pend, grdK_bool, grdK_undf, opPick_dec, opPick_true, opPick_false, bin_eql, bin_neq, bin_lss, bin_leq, bin_gtr, bin_geq, bin_add64, bin_sub64, bin_mul64, pendOk_nil, passed_nil, n_add, n_mul, n_and, bin_and32, bin_shr32, conv_nat, un_not, conv_64, decide_true, decide_false, true_implies, false_implies, forall_const, and_true, true_and, eq_self, ne_eq, ↓reduceIte, implies_true, Int.reduceLT, Int.reduceGT, Int.reduceLE, Int.reduceEq, Int.reduceNeg, and_self, Bool.not_eq_true, end_ret, end_nrm, endK_some, res_nil, res_tmp, res_cell1, res_cellN, resVal_one, resVal_none, resVal_two, Option.map_some, Option.bind_some, opExtract_eq, List.getElem?_cons_zero, List.getElem?_cons_succ, opNil_ptr, fld_ptr, Nat.mul_one, kbb, la]
  by_cases h0 : wsz (val xs) = 0
  · have h2 : (wsz (val xs) : Int) = 0 := by omega
    simp only [h2, k_skip, k_seq, k_cond, k_block, k_loop, k_range, k_exit, k_scope, k_ret, k_region, c_nil, c_seq, c_blk, c_lp, e_nil, e_seq, e_blk, e_lp, r_nil, r_seq, r_blk, r_lp, o_nil, o_p, o_pg, o_l, o_a, o_c, o_cg, o_store, o_mapU, o_app, o_copy, o_del, evP, evA, ev_tmp, ev_const, ev_func, evArgs_nil, evArgs_cons, evParts_nil, evParts_cons, evOpt_none, evOpt_some, putO_some, putO_none, restrict_cons, restrict_nil, argFr_cons, argFr_nil, upd_app, Nat.reduceAdd, Nat.reduceEqDiff, Nat.zero_add, Nat.add_zero, bump_zero, St.bump_next, St.put_next, decide_eq_true_eq, condK_bool, stepP_some, stepA_some, stepE_some, stepE_pend, grdK_bool, grdK_undf, opPick_dec, opPick_true, opPick_false, bin_eql, bin_neq, bin_lss, bin_leq, bin_gtr, bin_geq, bin_add64, bin_sub64, bin_mul64, pendOk_nil, passed_nil, n_add, n_mul, n_and, bin_and32, bin_shr32, conv_nat, un_not, conv_64, decide_true, decide_false, true_implies, false_implies, forall_const, and_true, true_and, eq_self, ne_eq, ↓reduceIte, implies_true, Int.reduceLT, Int.reduceGT, Int.reduceLE, Int.reduceEq, Int.reduceNeg, and_self, Bool.not_eq_true, end_ret, end_nrm, endK_some, res_nil, res_tmp, res_cell1, res_cellN, resVal_one, resVal_none, resVal_two, Option.map_some, Option.bind_some, opExtract_eq, List.getElem?_cons_zero, List.getElem?_cons_succ, opNil_ptr, fld_ptr, Nat.mul_one, kbb]
    exact ⟨_, hst _, by simp [nlen, h0]⟩
  · have h2 : ¬ (wsz (val xs) : Int) = 0 := by omega
    have ht : ((wsz (val xs) : Int) - 1).toNat = wsz (val xs) - 1 := by omega
    have hl := W_len (words (val xs))
    have hw := W_at (ws := words (val xs)) (i := wsz (val xs) - 1) (by unfold wsz at *; omega)
    have e : (words (val xs)).length = wsz (val xs) := rfl
    simp (disch := omega) only [h2, k_skip, k_seq, k_cond, k_block, k_loop, k_range, k_exit, k_scope, k_ret, k_region, c_nil, c_seq, c_blk, c_lp, e_nil, e_seq, e_blk, e_lp, r_nil, r_seq, r_blk, r_lp, o_nil, o_p, o_pg, o_l, o_a, o_c, o_cg, o_store, o_mapU, o_app, o_copy, o_del, evP, evA, ev_tmp, ev_const, ev_func, evArgs_nil, evArgs_cons, evParts_nil, evParts_cons, evOpt_none, evOpt_some, putO_some, putO_none, restrict_cons, restrict_nil, argFr_cons, argFr_nil, upd_app, Nat.reduceAdd, Nat.reduceEqDiff, Nat.zero_add, Nat.add_zero, bump_zero, St.bump_next, St.put_next, decide_eq_true_eq, condK_bool, stepP_some, stepA_some, stepE_some, stepE_pend, grdK_bool, grdK_undf, opPick_dec, opPick_true, opPick_false, bin_eql, bin_neq, bin_lss, bin_leq, bin_gtr, bin_geq, bin_add64, bin_sub64, bin_mul64, pendOk_nil, passed_nil, n_add, n_mul, n_and, bin_and32, bin_shr32, conv_nat, un_not, conv_64, decide_true, decide_false, true_implies, false_implies, forall_const, and_true, true_and, eq_self, ne_eq, ↓reduceIte, implies_true, Int.reduceLT, Int.reduceGT, Int.reduceLE, Int.reduceEq, Int.reduceNeg, and_self, Bool.not_eq_true, end_ret, end_nrm, endK_some, res_nil, res_tmp, res_cell1, res_cellN, resVal_one, resVal_none, resVal_two, Option.map_some, Option.bind_some, opExtract_eq, List.getElem?_cons_zero, List.getElem?_cons_succ, opNil_ptr, fld_ptr, Nat.mul_one, kbb, la, ra.addr, ht, ra.load0, hw]
    refine callK.of0 (Len64_ret ((wd_words _).at _)) ?_
    have hb := blen_le (k := 64) ((wd_words (val xs)).at (wsz (val xs) - 1))
    simp (disch := omega) only [k_skip, k_seq, k_cond, k_block, k_loop, k_range, k_exit, k_scope, k_ret, k_region, c_nil, c_seq, c_blk, c_lp, e_nil, e_seq, e_blk, e_lp, r_nil, r_seq, r_blk, r_lp, o_nil, o_p, o_pg, o_l, o_a, o_c, o_cg, o_store, o_mapU, o_app, o_copy, o_del, evP, evA, ev_tmp, ev_const, ev_func, evArgs_nil, evArgs_cons, evParts_nil, evParts_cons, evOpt_none, evOpt_some, putO_some, putO_none, restrict_cons, restrict_nil, argFr_cons, argFr_nil, upd_app, Nat.reduceAdd, Nat.reduceEqDiff, Nat.zero_add, Nat.add_zero, bump_zero, St.bump_next, St.put_next, decide_eq_true_eq, condK_bool, stepP_some, stepA_some, stepE_some, stepE_pend, grdK_bool, grdK_undf, opPick_dec, opPick_true, opPick_false, bin_eql, bin_neq, bin_lss, bin_leq, bin_gtr, bin_geq, bin_add64, bin_sub64, bin_mul64, pendOk_nil, passed_nil, n_add, n_mul, n_and, bin_and32, bin_shr32, conv_nat, un_not, conv_64, decide_true, decide_false, true_implies, false_implies, forall_const, and_true, true_and, eq_self, ne_eq, ↓reduceIte, implies_true, Int.reduceLT, Int.reduceGT, Int.reduceLE, Int.reduceEq, Int.reduceNeg, and_self, Bool.not_eq_true, end_ret, end_nrm, endK_some, res_nil, res_tmp, res_cell1, res_cellN, resVal_one, resVal_none, resVal_two, Option.map_some, Option.bind_some, opExtract_eq, List.getElem?_cons_zero, List.getElem?_cons_succ, opNil_ptr, fld_ptr, Nat.mul_one, kbb]
    refine ⟨_, hst _, ?_⟩
    rw [nlen, if_neg h0]
    congr 1
    omega

theorem nil_row (g : Get) : Row g 1 (.slice none 0 0) (W []) := ⟨by omega, (fun e he => by cases he), .inl ⟨rfl, rfl⟩⟩
theorem nil_im : IsMag (.slice none 0 0) 0 := ⟨fun g => nil_row g, stl_nil.up (by omega), rfl⟩
theorem nil_mag (s : St) : MagV s (.slice none 0 0) [] := ⟨fun _ _ => nil_row _, Wd.nil, by simp⟩

theorem Sub_r0 {s0 s : St} {a b v9 : Value} {G : Fr} {os : List Nat} {ob i n N x y c : Nat} (hv9 : v9 = u64 y) (hloc : Loc s0 s ob os) (hol : os.length = n) (hi : i < n) (hx : x < 18446744073709551616) (hy : y < 18446744073709551616) (hc : c ≤ 1) {k : List KItem} {Q : Ex → Fr → St → Prop}
    (hK : ∀ r q, r < 18446744073709551616 → q ≤ 1 → r + y + c = x + 18446744073709551616 * q → contK prog (upd (upd (upd (upd (upd (upd (fun _ => unk) 23 (i64 i)) 22 (i64 N)) 21 a) 6 (u64 q)) 5 (.slice (some ⟨ob, 0, none⟩) n 1)) 1 b)
      (s.put ob (.cells false ((os.map u64).set i (u64 r)))) k Q) :
    wpK prog c_mag_Sub_r0 (upd (upd (upd (upd (upd (upd (upd (upd (upd G 23 (i64 i)) 22 (i64 N)) 21 a) 9 v9) 8 (u64 x)) 7 (i64 i)) 6 (u64 c)) 5 (.slice (some ⟨ob, 0, none⟩) n 1)) 1 b) s k Q := by
  have ht : (i : Int).toNat = i := by omega
  have hlm : (os.map u64).length = os.length := by simp
  subst hv9
  obtain ⟨r, q, h1, h2, h3, h4⟩ := Sub64_ret (s := s) hx hy hc
  have hK := hK r q h1 h2 h3
  clear h1 h2 h3
  simp (disch := omega) only [c_mag_Sub_r0, k_skip, k_seq, k_cond, k_block, k_loop, k_range, k_exit, k_scope, k_ret, k_region, c_nil, c_seq, c_blk, c_lp, e_nil, e_seq, e_blk, e_lp, r_nil, r_seq, r_blk, r_lp, o_nil, o_p, o_pg, o_l, o_a, o_c, o_cg, o_store, o_mapU, o_app, o_copy, o_del, evP, evA, ev_tmp, ev_const, ev_func, evArgs_nil, evArgs_cons, evParts_nil, evParts_cons, evOpt_none, evOpt_some, putO_some, putO_none, restrict_cons, restrict_nil, argFr_cons, argFr_nil, upd_app, Nat.reduceAdd, Nat.reduceEqDiff, Nat.zero_add, Nat.add_zero, bump_zero, St.bump_next, St.put_next, decide_eq_true_eq, condK_bool, stepP_some, stepA_some, stepE_some, stepE_pend, grdK_bool, grdK_undf, opPick_dec, opPick_true, opPick_false, bin_eql, bin_neq, bin_lss, bin_leq, bin_gtr, bin_geq, bin_add64, bin_sub64, bin_mul64, pendOk_nil, passed_nil, n_add, n_mul, n_and, bin_and32, bin_shr32, conv_nat, un_not, conv_64, decide_true, decide_false, true_implies, false_implies, forall_const, and_true, true_and, eq_self, ne_eq, ↓reduceIte, implies_true, Int.reduceLT, Int.reduceGT, Int.reduceLE, Int.reduceEq, Int.reduceNeg, and_self, Bool.not_eq_true, end_ret, end_nrm, endK_some, res_nil, res_tmp, res_cell1, res_cellN, resVal_one, resVal_none, resVal_two, Option.map_some, Option.bind_some, opExtract_eq, List.getElem?_cons_zero, List.getElem?_cons_succ, opNil_ptr, fld_ptr, Nat.mul_one, kbb]
  refine callK.of0 h4 ?_
  have hst := fun w => store1 (j := i) (x := u64 w) hloc.get hloc.wm (by omega) rfl
  simp (disch := omega) only [k_skip, k_seq, k_cond, k_block, k_loop, k_range, k_exit, k_scope, k_ret, k_region, c_nil, c_seq, c_blk, c_lp, e_nil, e_seq, e_blk, e_lp, r_nil, r_seq, r_blk, r_lp, o_nil, o_p, o_pg, o_l, o_a, o_c, o_cg, o_store, o_mapU, o_app, o_copy, o_del, evP, evA, ev_tmp, ev_const, ev_func, evArgs_nil, evArgs_cons, evParts_nil, evParts_cons, evOpt_none, evOpt_some, putO_some, putO_none, restrict_cons, restrict_nil, argFr_cons, argFr_nil, upd_app, Nat.reduceAdd, Nat.reduceEqDiff, Nat.zero_add, Nat.add_zero, bump_zero, St.bump_next, St.put_next, decide_eq_true_eq, condK_bool, stepP_some, stepA_some, stepE_some, stepE_pend, grdK_bool, grdK_undf, opPick_dec, opPick_true, opPick_false, bin_eql, bin_neq, bin_lss, bin_leq, bin_gtr, bin_geq, bin_add64, bin_sub64, bin_mul64, pendOk_nil, passed_nil, n_add, n_mul, n_and, bin_and32, bin_shr32, conv_nat, un_not, conv_64, decide_true, decide_false, true_implies, false_implies, forall_const, and_true, true_and, eq_self, ne_eq, ↓reduceIte, implies_true, Int.reduceLT, Int.reduceGT, Int.reduceLE, Int.reduceEq, Int.reduceNeg, and_self, Bool.not_eq_true, end_ret, end_nrm, endK_some, res_nil, res_tmp, res_cell1, res_cellN, resVal_one, resVal_none, resVal_two, Option.map_some, Option.bind_some, opExtract_eq, List.getElem?_cons_zero, List.getElem?_cons_succ, opNil_ptr, fld_ptr, Nat.mul_one, kbb, sl_addr, ht, hst]
  exact hK

theorem Sub_loop {s0 : St} {a b : Value} {xs ys : List Nat} (ha : RowL s0 1 a (W xs)) (hb : RowL s0 1 b (W ys)) (hx : Wd xs) (hy : Wd ys) (hl : ys.length ≤ xs.length) (hbig : xs.length ≤ 1099511627776) {ob : Nat}
    {k : List KItem} {Q : Ex → Fr → St → Prop}
    (hexit : ∀ s os c G, Loc s0 s ob os → os.length = xs.length → Wd os → c ≤ 1 → val os + val ys = val xs + 18446744073709551616 ^ xs.length * c →
      contK prog (upd (upd (upd (upd (upd G 22 (i64 xs.length)) 21 a) 6 (u64 c)) 5 (.slice (some ⟨ob, 0, none⟩) xs.length 1)) 1 b) s k Q) :
    ∀ m i s os c, i + m = xs.length → Loc s0 s ob os → os.length = xs.length → Wd os → c ≤ 1 → val (os.take i) + val (ys.take i) = val (xs.take i) + 18446744073709551616 ^ i * c →
      loopK prog [1, 5, 6, 21, 22, 23] c_mag_Sub_lp0 (upd (upd (upd (upd (upd (upd (fun _ => unk) 23 (i64 i)) 22 (i64 xs.length)) 21 a) 6 (u64 c)) 5 (.slice (some ⟨ob, 0, none⟩) xs.length 1)) 1 b) s (.blk 0 :: k) Q := by
  intro m
  induction m with
  | zero =>
    intro i s os c hi hloc hol hw hc hv
    have hi : i = xs.length := by omega
    subst hi
    have hlt : ¬ (xs.length : Int) < xs.length := by omega
    refine loopK.stepAs c_mag_Sub_lp0.eq_1 ?_
    simp only [hlt, k_skip, k_seq, k_cond, k_block, k_loop, k_range, k_exit, k_scope, k_ret, k_region, c_nil, c_seq, c_blk, c_lp, e_nil, e_seq, e_blk, e_lp, r_nil, r_seq, r_blk, r_lp, o_nil, o_p, o_pg, o_l, o_a, o_c, o_cg, o_store, o_mapU, o_app, o_copy, o_del, evP, evA, ev_tmp, ev_const, ev_func, evArgs_nil, evArgs_cons, evParts_nil, evParts_cons, evOpt_none, evOpt_some, putO_some, putO_none, restrict_cons, restrict_nil, argFr_cons, argFr_nil, upd_app, Nat.reduceAdd, Nat.reduceEqDiff, Nat.zero_add, Nat.add_zero, bump_zero, St.bump_next, St.put_next, decide_eq_true_eq, condK_bool, stepP_some, stepA_some, stepE_some, stepE_pend, grdK_bool, grdK_undf, opPick_dec, opPick_true, opPick_false, bin_eql, bin_neq, bin_lss, bin_leq, bin_gtr, bin_geq, bin_add64, bin_sub64, bin_mul64, pendOk_nil, passed_nil, n_add, n_mul, n_and, bin_and32, bin_shr32, conv_nat, un_not, conv_64, decide_true, decide_false, true_implies, false_implies, forall_const, and_true, true_and, eq_self, ne_eq, ↓reduceIte, implies_true, Int.reduceLT, Int.reduceGT, Int.reduceLE, Int.reduceEq, Int.reduceNeg, and_self, Bool.not_eq_true, end_ret, end_nrm, endK_some, res_nil, res_tmp, res_cell1, res_cellN, resVal_one, resVal_none, resVal_two, Option.map_some, Option.bind_some, opExtract_eq, List.getElem?_cons_zero, List.getElem?_cons_succ, opNil_ptr, fld_ptr, Nat.mul_one, kbb]
    refine hexit s os c _ hloc hol hw hc ?_
    rw [List.take_length, List.take_of_length_le hl, List.take_of_length_le (by omega)] at hv
    exact hv
  | succ m ih =>
    intro i s os c hi hloc hol hw hc hv
    have hlt : (i : Int) < xs.length := by omega
    have ra := ha s hloc.later
    have rb := hb s hloc.later
    have hlx := W_len xs
    have hly := W_len ys
    have ht : (i : Int).toNat = i := by omega
    have hxa := W_at (ws := xs) (i := i) (by omega)
    have hlb := rb.len
    rw [hly] at hlb
    have hxi := hx.at i
    have hlo : i < os.length := by omega
    have next : ∀ y, y < 18446744073709551616 → val (ys.take (i + 1)) = val (ys.take i) + 18446744073709551616 ^ i * y → ∀ r q, r < 18446744073709551616 → q ≤ 1 → r + y + c = xs.getD i 0 + 18446744073709551616 * q →
        loopK prog [1, 5, 6, 21, 22, 23] c_mag_Sub_lp0 (upd (upd (upd (upd (upd (upd (fun _ => unk) 23 (i64 (i + 1 : Nat))) 22 (i64 xs.length)) 21 a) 6 (u64 q)) 5 (.slice (some ⟨ob, 0, none⟩) xs.length 1)) 1 b)
          (s.put ob (.cells false ((os.map u64).set i (u64 r)))) (.blk 0 :: k) Q := by
      intro y hy hvy r q hr hc2 e
      refine ih (i + 1) _ _ _ (by omega) (hloc.set i _) (by simpa using hol) (wd_set hw i hr) hc2 ?_
      rw [take_set hlo, hvy, val_take_succ (by omega), Nat.pow_succ]
      generalize 18446744073709551616 ^ i = p at *
      have e2 : p * (r + y + c) = p * (xs.getD i 0 + 18446744073709551616 * q) := by rw [e]
      rw [Nat.mul_add, Nat.mul_add, Nat.mul_add, ← Nat.mul_assoc] at e2
      omega
    have hi1 : (i : Int) + 1 = (i + 1 : Nat) := by omega
    refine loopK.stepAs c_mag_Sub_lp0.eq_1 ?_
    by_cases hiy : i < ys.length
    · have hyb := W_at (ws := ys) (i := i) (by omega)
      have hlt2 : (i : Int) < ys.length := by omega
      simp (disch := omega) only [hlt, hlt2, ra.addr, ht, ra.load0, hxa, hlb, rb.addr, rb.load0, hyb, k_skip, k_seq, k_cond, k_block, k_loop, k_range, k_exit, k_scope, k_ret, k_region, c_nil, c_seq, c_blk, c_lp, e_nil, e_seq, e_blk, e_lp, r_nil, r_seq, r_blk, r_lp, o_nil, o_p, o_pg, o_l, o_a, o_c, o_cg, o_store, o_mapU, o_app, o_copy, o_del, evP, evA, ev_tmp, ev_const, ev_func, evArgs_nil, evArgs_cons, evParts_nil, evParts_cons, evOpt_none, evOpt_some, putO_some, putO_none, restrict_cons, restrict_nil, argFr_cons, argFr_nil, upd_app, Nat.reduceAdd, Nat.reduceEqDiff, Nat.zero_add, Nat.add_zero, bump_zero, St.bump_next, St.put_next, decide_eq_true_eq, condK_bool, stepP_some, stepA_some, stepE_some, stepE_pend, grdK_bool, grdK_undf, opPick_dec, opPick_true, opPick_false, bin_eql, bin_neq, bin_lss, bin_leq, bin_gtr, bin_geq, bin_add64, bin_sub64, bin_mul64, pendOk_nil, passed_nil, n_add, n_mul, n_and, bin_and32, bin_shr32, conv_nat, un_not, conv_64, decide_true, decide_false, true_implies, false_implies, forall_const, and_true, true_and, eq_self, ne_eq, ↓reduceIte, implies_true, Int.reduceLT, Int.reduceGT, Int.reduceLE, Int.reduceEq, Int.reduceNeg, and_self, Bool.not_eq_true, end_ret, end_nrm, endK_some, res_nil, res_tmp, res_cell1, res_cellN, resVal_one, resVal_none, resVal_two, Option.map_some, Option.bind_some, opExtract_eq, List.getElem?_cons_zero, List.getElem?_cons_succ, opNil_ptr, fld_ptr, Nat.mul_one, kbb]
      refine Sub_r0 rfl hloc hol (by omega) hxi (hy.at i) hc fun r q h1 h2 h3 => ?_
      simp (disch := omega) only [k_skip, k_seq, k_cond, k_block, k_loop, k_range, k_exit, k_scope, k_ret, k_region, c_nil, c_seq, c_blk, c_lp, e_nil, e_seq, e_blk, e_lp, r_nil, r_seq, r_blk, r_lp, o_nil, o_p, o_pg, o_l, o_a, o_c, o_cg, o_store, o_mapU, o_app, o_copy, o_del, evP, evA, ev_tmp, ev_const, ev_func, evArgs_nil, evArgs_cons, evParts_nil, evParts_cons, evOpt_none, evOpt_some, putO_some, putO_none, restrict_cons, restrict_nil, argFr_cons, argFr_nil, upd_app, Nat.reduceAdd, Nat.reduceEqDiff, Nat.zero_add, Nat.add_zero, bump_zero, St.bump_next, St.put_next, decide_eq_true_eq, condK_bool, stepP_some, stepA_some, stepE_some, stepE_pend, grdK_bool, grdK_undf, opPick_dec, opPick_true, opPick_false, bin_eql, bin_neq, bin_lss, bin_leq, bin_gtr, bin_geq, bin_add64, bin_sub64, bin_mul64, pendOk_nil, passed_nil, n_add, n_mul, n_and, bin_and32, bin_shr32, conv_nat, un_not, conv_64, decide_true, decide_false, true_implies, false_implies, forall_const, and_true, true_and, eq_self, ne_eq, ↓reduceIte, implies_true, Int.reduceLT, Int.reduceGT, Int.reduceLE, Int.reduceEq, Int.reduceNeg, and_self, Bool.not_eq_true, end_ret, end_nrm, endK_some, res_nil, res_tmp, res_cell1, res_cellN, resVal_one, resVal_none, resVal_two, Option.map_some, Option.bind_some, opExtract_eq, List.getElem?_cons_zero, List.getElem?_cons_succ, opNil_ptr, fld_ptr, Nat.mul_one, kbb, hi1]
      exact next (ys.getD i 0) (hy.at i) (val_take_succ (by omega)) r q h1 h2 h3
    · have hlt2 : ¬ (i : Int) < ys.length := by omega
      simp (disch := omega) only [hlt, hlt2, ra.addr, ht, ra.load0, hxa, hlb, k_skip, k_seq, k_cond, k_block, k_loop, k_range, k_exit, k_scope, k_ret, k_region, c_nil, c_seq, c_blk, c_lp, e_nil, e_seq, e_blk, e_lp, r_nil, r_seq, r_blk, r_lp, o_nil, o_p, o_pg, o_l, o_a, o_c, o_cg, o_store, o_mapU, o_app, o_copy, o_del, evP, evA, ev_tmp, ev_const, ev_func, evArgs_nil, evArgs_cons, evParts_nil, evParts_cons, evOpt_none, evOpt_some, putO_some, putO_none, restrict_cons, restrict_nil, argFr_cons, argFr_nil, upd_app, Nat.reduceAdd, Nat.reduceEqDiff, Nat.zero_add, Nat.add_zero, bump_zero, St.bump_next, St.put_next, decide_eq_true_eq, condK_bool, stepP_some, stepA_some, stepE_some, stepE_pend, grdK_bool, grdK_undf, opPick_dec, opPick_true, opPick_false, bin_eql, bin_neq, bin_lss, bin_leq, bin_gtr, bin_geq, bin_add64, bin_sub64, bin_mul64, pendOk_nil, passed_nil, n_add, n_mul, n_and, bin_and32, bin_shr32, conv_nat, un_not, conv_64, decide_true, decide_false, true_implies, false_implies, forall_const, and_true, true_and, eq_self, ne_eq, ↓reduceIte, implies_true, Int.reduceLT, Int.reduceGT, Int.reduceLE, Int.reduceEq, Int.reduceNeg, and_self, Bool.not_eq_true, end_ret, end_nrm, endK_some, res_nil, res_tmp, res_cell1, res_cellN, resVal_one, resVal_none, resVal_two, Option.map_some, Option.bind_some, opExtract_eq, List.getElem?_cons_zero, List.getElem?_cons_succ, opNil_ptr, fld_ptr, Nat.mul_one, kbb]
      refine Sub_r0 zero_u hloc hol (by omega) hxi (by omega) hc fun r q h1 h2 h3 => ?_
      simp (disch := omega) only [k_skip, k_seq, k_cond, k_block, k_loop, k_range, k_exit, k_scope, k_ret, k_region, c_nil, c_seq, c_blk, c_lp, e_nil, e_seq, e_blk, e_lp, r_nil, r_seq, r_blk, r_lp, o_nil, o_p, o_pg, o_l, o_a, o_c, o_cg, o_store, o_mapU, o_app, o_copy, o_del, evP, evA, ev_tmp, ev_const, ev_func, evArgs_nil, evArgs_cons, evParts_nil, evParts_cons, evOpt_none, evOpt_some, putO_some, putO_none, restrict_cons, restrict_nil, argFr_cons, argFr_nil, upd_app, Nat.reduceAdd, Nat.reduceEqDiff, Nat.zero_add, Nat.add_zero, bump_zero, St.bump_next, St.put_next, decide_eq_true_eq, condK_bool, stepP_some, stepA_some, stepE_some, stepE_pend, grdK_bool, grdK_undf, opPick_dec, opPick_true, opPick_false, bin_eql, bin_neq, bin_lss, bin_leq, bin_gtr, bin_geq, bin_add64, bin_sub64, bin_mul64, pendOk_nil, passed_nil, n_add, n_mul, n_and, bin_and32, bin_shr32, conv_nat, un_not, conv_64, decide_true, decide_false, true_implies, false_implies, forall_const, and_true, true_and, eq_self, ne_eq, ↓reduceIte, implies_true, Int.reduceLT, Int.reduceGT, Int.reduceLE, Int.reduceEq, Int.reduceNeg, and_self, Bool.not_eq_true, end_ret, end_nrm, endK_some, res_nil, res_tmp, res_cell1, res_cellN, resVal_one, resVal_none, resVal_two, Option.map_some, Option.bind_some, opExtract_eq, List.getElem?_cons_zero, List.getElem?_cons_succ, opNil_ptr, fld_ptr, Nat.mul_one, kbb, hi1]
      refine next 0 (by omega) ?_ r q h1 h2 h3
      rw [List.take_of_length_le (by omega), List.take_of_length_le (by omega)]
      omega

/-- A row's words, without noughts at the end. -/
theorem MagV.trim {s : St} {a : Value} {xs : List Nat} (ha : MagV s a xs) : MagV s (sub 1 a 0 (wsz (val xs))) (words (val xs)) := by
  have hz := wsz_val ha.wd
  have ra := ha.row.sub (l := 0) (m := wsz (val xs)) (by omega) (by rw [W_len]; omega)
  rw [List.drop_zero, W_take, take_words ha.wd] at ra
  exact ⟨ra, wd_words _, by have := ha.len; unfold wsz at *; omega⟩
theorem MagV.lenI {s s' : St} {a : Value} {xs : List Nat} (ha : MagV s a xs) (hL : Later s s') : opLen a = some (i64 xs.length) := by
  have := (ha.row s' hL).len
  rwa [W_len] at this

theorem Sub_ret {s : St} (hf : Fresh s) {a b : Value} {xs ys : List Nat} (ha : MagV s a xs) (hb : MagV s b ys) :
    ∃ v, Ret prog (fv n_mag_Sub) [a, b] s v s ∧ IsMag v (val xs - val ys) := by
  refine ret_pure p_Sub rfl (by simp [c_mag_Sub]) fun s0 hs0 => ?_
  have hL : Later s s0 := by subst hs0; exact Later.callee s
  have hf0 : Fresh s0 := by subst hs0; exact hf
  have hnx : s0.next = s.next := by subst hs0; rfl
  have hwm0 : s0.wm ≤ s0.next := by subst hs0; exact Nat.le_refl _
  have hbx := ha.len
  have hby := hb.len
  simp only [c_mag_Sub, k_skip, k_seq, k_cond, k_block, k_loop, k_range, k_exit, k_scope, k_ret, k_region, c_nil, c_seq, c_blk, c_lp, e_nil, e_seq, e_blk, e_lp, r_nil, r_seq, r_blk, r_lp, o_nil, o_p, o_pg, o_l, o_a, o_c, o_cg, o_store, o_mapU, o_app, o_copy, o_del, evP, evA, ev_tmp, ev_const, ev_func, evArgs_nil, evArgs_cons, evParts_nil, evParts_cons, evOpt_none, evOpt_some, putO_some, putO_none, restrict_cons, restrict_nil, argFr_cons, argFr_nil, upd_app, Nat.reduceAdd, Nat.reduceEqDiff, Nat.zero_add, Nat.add_zero, bump_zero, St.bump_next, St.put_next, decide_eq_true_eq, condK_bool, stepP_some, stepA_some, stepE_some, stepE_pend, grdK_bool, grdK_undf, opPick_dec, opPick_true, opPick_false, bin_eql, bin_neq, bin_lss, bin_leq, bin_gtr, bin_geq, bin_add64, bin_sub64, bin_mul64, pendOk_nil, passed_nil, n_add, n_mul, n_and, bin_and32, bin_shr32, conv_nat, un_not, conv_64, decide_true, decide_false, true_implies, false_implies, forall_const, and_true, true_and, eq_self, ne_eq, ↓reduceIte, implies_true, Int.reduceLT, Int.reduceGT, Int.reduceLE, Int.reduceEq, Int.reduceNeg, and_self, Bool.not_eq_true, end_ret, end_nrm, endK_some, res_nil, res_tmp, res_cell1, res_cellN, resVal_one, resVal_none, resVal_two, Option.map_some, Option.bind_some, opExtract_eq, List.getElem?_cons_zero, List.getElem?_cons_succ, opNil_ptr, fld_ptr, Nat.mul_one, kbb]
  refine callK.of0 (right_ret (ha.later hL)) ?_
  simp only [k_skip, k_seq, k_cond, k_block, k_loop, k_range, k_exit, k_scope, k_ret, k_region, c_nil, c_seq, c_blk, c_lp, e_nil, e_seq, e_blk, e_lp, r_nil, r_seq, r_blk, r_lp, o_nil, o_p, o_pg, o_l, o_a, o_c, o_cg, o_store, o_mapU, o_app, o_copy, o_del, evP, evA, ev_tmp, ev_const, ev_func, evArgs_nil, evArgs_cons, evParts_nil, evParts_cons, evOpt_none, evOpt_some, putO_some, putO_none, restrict_cons, restrict_nil, argFr_cons, argFr_nil, upd_app, Nat.reduceAdd, Nat.reduceEqDiff, Nat.zero_add, Nat.add_zero, bump_zero, St.bump_next, St.put_next, decide_eq_true_eq, condK_bool, stepP_some, stepA_some, stepE_some, stepE_pend, grdK_bool, grdK_undf, opPick_dec, opPick_true, opPick_false, bin_eql, bin_neq, bin_lss, bin_leq, bin_gtr, bin_geq, bin_add64, bin_sub64, bin_mul64, pendOk_nil, passed_nil, n_add, n_mul, n_and, bin_and32, bin_shr32, conv_nat, un_not, conv_64, decide_true, decide_false, true_implies, false_implies, forall_const, and_true, true_and, eq_self, ne_eq, ↓reduceIte, implies_true, Int.reduceLT, Int.reduceGT, Int.reduceLE, Int.reduceEq, Int.reduceNeg, and_self, Bool.not_eq_true, end_ret, end_nrm, endK_some, res_nil, res_tmp, res_cell1, res_cellN, resVal_one, resVal_none, resVal_two, Option.map_some, Option.bind_some, opExtract_eq, List.getElem?_cons_zero, List.getElem?_cons_succ, opNil_ptr, fld_ptr, Nat.mul_one, kbb]
  refine callK.of0 (right_ret (hb.later hL)) ?_
  have ta := (ha.later hL).trim
  have tb := (hb.later hL).trim
  generalize sub 1 a 0 (wsz (val xs)) = a' at *
  generalize sub 1 b 0 (wsz (val ys)) = b' at *
  have la := ta.lenI (Later.refl s0)
  simp only [k_skip, k_seq, k_cond, k_block, k_loop, k_range, k_exit, k_scope, k_ret, k_region, c_nil, c_seq, c_blk, c_lp, e_nil, e_seq, e_blk, e_lp, r_nil, r_seq, r_blk, r_lp, o_nil, o_p, o_pg, o_l, o_a, o_c, o_cg, o_store, o_mapU, o_app, o_copy, o_del, evP, evA, ev_tmp, ev_const, ev_func, evArgs_nil, evArgs_cons, evParts_nil, evParts_cons, evOpt_none, evOpt_some, putO_some, putO_none, restrict_cons, restrict_nil, argFr_cons, argFr_nil, upd_app, Nat.reduceAdd, Nat.reduceEqDiff, Nat.zero_add, Nat.add_zero, bump_zero, St.bump_next, St.put_next, decide_eq_true_eq, condK_bool, stepP_some, stepA_some, stepE_some, stepE_pend, grdK_bool, grdK_undf, opPick_dec, opPick_true, opPick_false, bin_eql, bin_neq, bin_lss, bin_leq, bin_gtr, bin_geq, bin_add64, bin_sub64, bin_mul64, pendOk_nil, passed_nil, n_add, n_mul, n_and, bin_and32, bin_shr32, conv_nat, un_not, conv_64, decide_true, decide_false, true_implies, false_implies, forall_const, and_true, true_and, eq_self, ne_eq, ↓reduceIte, implies_true, Int.reduceLT, Int.reduceGT, Int.reduceLE, Int.reduceEq, Int.reduceNeg, and_self, Bool.not_eq_true, end_ret, end_nrm, endK_some, res_nil, res_tmp, res_cell1, res_cellN, resVal_one, resVal_none, resVal_two, Option.map_some, Option.bind_some, opExtract_eq, List.getElem?_cons_zero, List.getElem?_cons_succ, opNil_ptr, fld_ptr, Nat.mul_one, kbb]
  refine callK.of0 (Cmp_ret ta tb) ?_
  rw [val_words, val_words]
  simp only [k_skip, k_seq, k_cond, k_block, k_loop, k_range, k_exit, k_scope, k_ret, k_region, c_nil, c_seq, c_blk, c_lp, e_nil, e_seq, e_blk, e_lp, r_nil, r_seq, r_blk, r_lp, o_nil, o_p, o_pg, o_l, o_a, o_c, o_cg, o_store, o_mapU, o_app, o_copy, o_del, evP, evA, ev_tmp, ev_const, ev_func, evArgs_nil, evArgs_cons, evParts_nil, evParts_cons, evOpt_none, evOpt_some, putO_some, putO_none, restrict_cons, restrict_nil, argFr_cons, argFr_nil, upd_app, Nat.reduceAdd, Nat.reduceEqDiff, Nat.zero_add, Nat.add_zero, bump_zero, St.bump_next, St.put_next, decide_eq_true_eq, condK_bool, stepP_some, stepA_some, stepE_some, stepE_pend, grdK_bool, grdK_undf, opPick_dec, opPick_true, opPick_false, bin_eql, bin_neq, bin_lss, bin_leq, bin_gtr, bin_geq, bin_add64, bin_sub64, bin_mul64, pendOk_nil, passed_nil, n_add, n_mul, n_and, bin_and32, bin_shr32, conv_nat, un_not, conv_64, decide_true, decide_false, true_implies, false_implies, forall_const, and_true, true_and, eq_self, ne_eq, ↓reduceIte, implies_true, Int.reduceLT, Int.reduceGT, Int.reduceLE, Int.reduceEq, Int.reduceNeg, and_self, Bool.not_eq_true, end_ret, end_nrm, endK_some, res_nil, res_tmp, res_cell1, res_cellN, resVal_one, resVal_none, resVal_two, Option.map_some, Option.bind_some, opExtract_eq, List.getElem?_cons_zero, List.getElem?_cons_succ, opNil_ptr, fld_ptr, Nat.mul_one, kbb]
  generalize hX : val xs = X at *
  generalize hY : val ys = Y at *
  by_cases hle : X ≤ Y
  · have h1 : cmpI X Y ≤ 0 := by unfold cmpI; split <;> (try split) <;> omega
    simp only [h1, k_skip, k_seq, k_cond, k_block, k_loop, k_range, k_exit, k_scope, k_ret, k_region, c_nil, c_seq, c_blk, c_lp, e_nil, e_seq, e_blk, e_lp, r_nil, r_seq, r_blk, r_lp, o_nil, o_p, o_pg, o_l, o_a, o_c, o_cg, o_store, o_mapU, o_app, o_copy, o_del, evP, evA, ev_tmp, ev_const, ev_func, evArgs_nil, evArgs_cons, evParts_nil, evParts_cons, evOpt_none, evOpt_some, putO_some, putO_none, restrict_cons, restrict_nil, argFr_cons, argFr_nil, upd_app, Nat.reduceAdd, Nat.reduceEqDiff, Nat.zero_add, Nat.add_zero, bump_zero, St.bump_next, St.put_next, decide_eq_true_eq, condK_bool, stepP_some, stepA_some, stepE_some, stepE_pend, grdK_bool, grdK_undf, opPick_dec, opPick_true, opPick_false, bin_eql, bin_neq, bin_lss, bin_leq, bin_gtr, bin_geq, bin_add64, bin_sub64, bin_mul64, pendOk_nil, passed_nil, n_add, n_mul, n_and, bin_and32, bin_shr32, conv_nat, un_not, conv_64, decide_true, decide_false, true_implies, false_implies, forall_const, and_true, true_and, eq_self, ne_eq, ↓reduceIte, implies_true, Int.reduceLT, Int.reduceGT, Int.reduceLE, Int.reduceEq, Int.reduceNeg, and_self, Bool.not_eq_true, end_ret, end_nrm, endK_some, res_nil, res_tmp, res_cell1, res_cellN, resVal_one, resVal_none, resVal_two, Option.map_some, Option.bind_some, opExtract_eq, List.getElem?_cons_zero, List.getElem?_cons_succ, opNil_ptr, fld_ptr, Nat.mul_one, kbb]
    refine ⟨_, stl_nil _ _ _ (by omega), ?_⟩
    rw [show X - Y = 0 by omega]
    exact nil_im
  · have h1 : ¬ cmpI X Y ≤ 0 := by unfold cmpI; rw [if_neg (by omega), if_neg (by omega)]; omega
    have hlen : (words Y).length ≤ (words X).length := wsz_mono (a := Y) (b := X) (by omega)
    have hbw := ta.len
    have ht : ((words X).length : Int).toNat = (words X).length := by omega
    simp (disch := omega) only [h1, k_skip, k_seq, k_cond, k_block, k_loop, k_range, k_exit, k_scope, k_ret, k_region, c_nil, c_seq, c_blk, c_lp, e_nil, e_seq, e_blk, e_lp, r_nil, r_seq, r_blk, r_lp, o_nil, o_p, o_pg, o_l, o_a, o_c, o_cg, o_store, o_mapU, o_app, o_copy, o_del, evP, evA, ev_tmp, ev_const, ev_func, evArgs_nil, evArgs_cons, evParts_nil, evParts_cons, evOpt_none, evOpt_some, putO_some, putO_none, restrict_cons, restrict_nil, argFr_cons, argFr_nil, upd_app, Nat.reduceAdd, Nat.reduceEqDiff, Nat.zero_add, Nat.add_zero, bump_zero, St.bump_next, St.put_next, decide_eq_true_eq, condK_bool, stepP_some, stepA_some, stepE_some, stepE_pend, grdK_bool, grdK_undf, opPick_dec, opPick_true, opPick_false, bin_eql, bin_neq, bin_lss, bin_leq, bin_gtr, bin_geq, bin_add64, bin_sub64, bin_mul64, pendOk_nil, passed_nil, n_add, n_mul, n_and, bin_and32, bin_shr32, conv_nat, un_not, conv_64, decide_true, decide_false, true_implies, false_implies, forall_const, and_true, true_and, eq_self, ne_eq, ↓reduceIte, implies_true, Int.reduceLT, Int.reduceGT, Int.reduceLE, Int.reduceEq, Int.reduceNeg, and_self, Bool.not_eq_true, end_ret, end_nrm, endK_some, res_nil, res_tmp, res_cell1, res_cellN, resVal_one, resVal_none, resVal_two, Option.map_some, Option.bind_some, opExtract_eq, List.getElem?_cons_zero, List.getElem?_cons_succ, opNil_ptr, fld_ptr, Nat.mul_one, kbb, la, make_row, ht, reps_one]
    have hmk := Loc.make hf0 hwm0 (words X).length
    refine Sub_loop ta.row tb.row ta.wd tb.wd hlen (by omega) ?_ (words X).length 0 _ _ 0 (by omega) hmk (by simp) (wd_rep _) (by omega) (by simp [val])
    intro s1 os c G hloc hol hw hc hv
    rw [val_words, val_words] at hv
    have hlt := val_lt hw
    rw [hol] at hlt
    have hc0 : c = 0 := by
      rcases Nat.lt_or_ge c 1 with h | h
      · omega
      · have : c = 1 := by omega
        subst this
        omega
    subst hc0
    have hval : val os = X - Y := by omega
    simp only [k_skip, k_seq, k_cond, k_block, k_loop, k_range, k_exit, k_scope, k_ret, k_region, c_nil, c_seq, c_blk, c_lp, e_nil, e_seq, e_blk, e_lp, r_nil, r_seq, r_blk, r_lp, o_nil, o_p, o_pg, o_l, o_a, o_c, o_cg, o_store, o_mapU, o_app, o_copy, o_del, evP, evA, ev_tmp, ev_const, ev_func, evArgs_nil, evArgs_cons, evParts_nil, evParts_cons, evOpt_none, evOpt_some, putO_some, putO_none, restrict_cons, restrict_nil, argFr_cons, argFr_nil, upd_app, Nat.reduceAdd, Nat.reduceEqDiff, Nat.zero_add, Nat.add_zero, bump_zero, St.bump_next, St.put_next, decide_eq_true_eq, condK_bool, stepP_some, stepA_some, stepE_some, stepE_pend, grdK_bool, grdK_undf, opPick_dec, opPick_true, opPick_false, bin_eql, bin_neq, bin_lss, bin_leq, bin_gtr, bin_geq, bin_add64, bin_sub64, bin_mul64, pendOk_nil, passed_nil, n_add, n_mul, n_and, bin_and32, bin_shr32, conv_nat, un_not, conv_64, decide_true, decide_false, true_implies, false_implies, forall_const, and_true, true_and, eq_self, ne_eq, ↓reduceIte, implies_true, Int.reduceLT, Int.reduceGT, Int.reduceLE, Int.reduceEq, Int.reduceNeg, and_self, Bool.not_eq_true, end_ret, end_nrm, endK_some, res_nil, res_tmp, res_cell1, res_cellN, resVal_one, resVal_none, resVal_two, Option.map_some, Option.bind_some, opExtract_eq, List.getElem?_cons_zero, List.getElem?_cons_succ, opNil_ptr, fld_ptr, Nat.mul_one, kbb]
    have hm := hloc.mag hw (by omega)
    have hset := hloc.settle hw
    rw [hol] at hm hset
    refine callK.of0 (right_ret hm) ?_
    simp only [k_skip, k_seq, k_cond, k_block, k_loop, k_range, k_exit, k_scope, k_ret, k_region, c_nil, c_seq, c_blk, c_lp, e_nil, e_seq, e_blk, e_lp, r_nil, r_seq, r_blk, r_lp, o_nil, o_p, o_pg, o_l, o_a, o_c, o_cg, o_store, o_mapU, o_app, o_copy, o_del, evP, evA, ev_tmp, ev_const, ev_func, evArgs_nil, evArgs_cons, evParts_nil, evParts_cons, evOpt_none, evOpt_some, putO_some, putO_none, restrict_cons, restrict_nil, argFr_cons, argFr_nil, upd_app, Nat.reduceAdd, Nat.reduceEqDiff, Nat.zero_add, Nat.add_zero, bump_zero, St.bump_next, St.put_next, decide_eq_true_eq, condK_bool, stepP_some, stepA_some, stepE_some, stepE_pend, grdK_bool, grdK_undf, opPick_dec, opPick_true, opPick_false, bin_eql, bin_neq, bin_lss, bin_leq, bin_gtr, bin_geq, bin_add64, bin_sub64, bin_mul64, pendOk_nil, passed_nil, n_add, n_mul, n_and, bin_and32, bin_shr32, conv_nat, un_not, conv_64, decide_true, decide_false, true_implies, false_implies, forall_const, and_true, true_and, eq_self, ne_eq, ↓reduceIte, implies_true, Int.reduceLT, Int.reduceGT, Int.reduceLE, Int.reduceEq, Int.reduceNeg, and_self, Bool.not_eq_true, end_ret, end_nrm, endK_some, res_nil, res_tmp, res_cell1, res_cellN, resVal_one, resVal_none, resVal_two, Option.map_some, Option.bind_some, opExtract_eq, List.getElem?_cons_zero, List.getElem?_cons_succ, opNil_ptr, fld_ptr, Nat.mul_one, kbb]
    rw [hval] at hset
    rw [hval, ← hnx]
    exact hset
end Go.Iso

namespace Go.Iso
open Go.Ev
variable {prog : Nat → Option CDecl} [A : Arith prog]

theorem Add64_x {s : St} {x y c : Nat} {vc : Value} (hv : vc = u64 c) (hx : x < 18446744073709551616) (hy : y < 18446744073709551616) (hc : c ≤ 1) :
    ∃ r q, r < 18446744073709551616 ∧ q ≤ 1 ∧ r + 18446744073709551616 * q = x + y + c ∧ Ret prog (fv n_bits_Add64) [u64 x, u64 y, vc] s (.tuple ⟨[u64 r, u64 q]⟩) s := by
  subst hv
  exact ⟨_, _, by omega, by omega, by omega, Add64_ret hc⟩
theorem Mul64_x {s : St} {x y : Nat} (hx : x < 18446744073709551616) (hy : y < 18446744073709551616) :
    ∃ h l, h < 18446744073709551615 ∧ l < 18446744073709551616 ∧ l + 18446744073709551616 * h = x * y ∧ Ret prog (fv n_bits_Mul64) [u64 x, u64 y] s (.tuple ⟨[u64 h, u64 l]⟩) s := by
  have h1 : x * y ≤ 18446744073709551615 * 18446744073709551615 := Nat.mul_le_mul (by omega) (by omega)
  refine ⟨_, _, ?_, ?_, ?_, Mul64_ret hx hy⟩ <;> omega

theorem val_set : ∀ {ws : List Nat} {k w : Nat}, k < ws.length → val (ws.set k w) + 18446744073709551616 ^ k * ws.getD k 0 = val ws + 18446744073709551616 ^ k * w
  | x :: ws, 0, w, _ => by simp [val]; omega
  | x :: ws, k + 1, w, h => by
    have ih := val_set (ws := ws) (k := k) (w := w) (by simpa using h)
    simp only [List.set_cons_succ, val, List.getD_cons_succ, Nat.pow_succ]
    rw [Nat.mul_comm (18446744073709551616 ^ k) 18446744073709551616, Nat.mul_assoc, Nat.mul_assoc]
    omega
theorem getD_set_ne {ws : List Nat} {i k w : Nat} (h : i ≠ k) : (ws.set i w).getD k 0 = ws.getD k 0 := by
  simp [List.getD, List.getElem?_set, h]

theorem Mul_loop0 {s0 : St} {a b : Value} {ys : List Nat} (hb : RowL s0 1 b (W ys)) (hy : Wd ys) {ob i x N L T : Nat} {na : Value} (hx : x < 18446744073709551616) (hL : L = N + ys.length) (hi : i < N) (hbig : L ≤ 2199023255552)
    {k : List KItem} {Q : Ex → Fr → St → Prop}
    (hexit : ∀ s os c G, Loc s0 s ob os → os.length = L → Wd os → (∀ k, i + ys.length ≤ k → os.getD k 0 = 0) → c < 18446744073709551616 → val os + 18446744073709551616 ^ (i + ys.length) * c = T + 18446744073709551616 ^ i * (x * val ys) →
      contK prog (upd (upd (upd (upd (upd (upd (upd (upd G 22 (i64 i)) 21 na) 20 a) 8 (u64 c)) 7 (u64 x)) 6 (i64 i)) 5 (.slice (some ⟨ob, 0, none⟩) L 1)) 1 b) s k Q) :
    ∀ m j s os c, j + m = ys.length → Loc s0 s ob os → os.length = L → Wd os → (∀ k, i + ys.length ≤ k → os.getD k 0 = 0) → c < 18446744073709551616 →
      val os + 18446744073709551616 ^ (i + j) * c = T + 18446744073709551616 ^ i * (x * val (ys.take j)) →
      loopK prog [1, 5, 6, 7, 8, 20, 21, 22, 27, 28, 29] c_mag_Mul_lp0 (upd (upd (upd (upd (upd (upd (upd (upd (upd (upd (upd (fun _ => unk) 29 (i64 j)) 28 (i64 ys.length)) 27 b) 22 (i64 i)) 21 na) 20 a) 8 (u64 c)) 7 (u64 x)) 6 (i64 i)) 5 (.slice (some ⟨ob, 0, none⟩) L 1)) 1 b) s (.blk 2 :: k) Q := by
  intro m
  induction m with
  | zero =>
    intro j s os c hj hloc hol hw hz hc hv
    have hj : j = ys.length := by omega
    subst hj
    have hlt : ¬ (ys.length : Int) < ys.length := by omega
    refine loopK.stepAs c_mag_Mul_lp0.eq_1 ?_
    simp only [hlt, k_skip, k_seq, k_cond, k_block, k_loop, k_range, k_exit, k_scope, k_ret, k_region, c_nil, c_seq, c_blk, c_lp, e_nil, e_seq, e_blk, e_lp, r_nil, r_seq, r_blk, r_lp, o_nil, o_p, o_pg, o_l, o_a, o_c, o_cg, o_store, o_mapU, o_app, o_copy, o_del, evP, evA, ev_tmp, ev_const, ev_func, evArgs_nil, evArgs_cons, evParts_nil, evParts_cons, evOpt_none, evOpt_some, putO_some, putO_none, restrict_cons, restrict_nil, argFr_cons, argFr_nil, upd_app, Nat.reduceAdd, Nat.reduceEqDiff, Nat.zero_add, Nat.add_zero, bump_zero, St.bump_next, St.put_next, decide_eq_true_eq, condK_bool, stepP_some, stepA_some, stepE_some, stepE_pend, grdK_bool, grdK_undf, opPick_dec, opPick_true, opPick_false, bin_eql, bin_neq, bin_lss, bin_leq, bin_gtr, bin_geq, bin_add64, bin_sub64, bin_mul64, pendOk_nil, passed_nil, n_add, n_mul, n_and, bin_and32, bin_shr32, conv_nat, un_not, conv_64, decide_true, decide_false, true_implies, false_implies, forall_const, and_true, true_and, eq_self, ne_eq, ↓reduceIte, implies_true, Int.reduceLT, Int.reduceGT, Int.reduceLE, Int.reduceEq, Int.reduceNeg, and_self, Bool.not_eq_true, end_ret, end_nrm, endK_some, res_nil, res_tmp, res_cell1, res_cellN, resVal_one, resVal_none, resVal_two, Option.map_some, Option.bind_some, opExtract_eq, List.getElem?_cons_zero, List.getElem?_cons_succ, opNil_ptr, fld_ptr, Nat.mul_one, kbb]
    rw [List.take_length] at hv
    exact hexit s os c _ hloc hol hw hz hc hv
  | succ m ih =>
    intro j s os c hj hloc hol hw hz hc hv
    have hlt : (j : Int) < ys.length := by omega
    have rb := hb s hloc.later
    have hly := W_len ys
    have ht : (j : Int).toNat = j := by omega
    have hyb := W_at (ws := ys) (i := j) (by omega)
    have hj1 : (j : Int) + 1 = (j + 1 : Nat) := by omega
    have hij : ((i : Int) + (j : Int)).toNat = i + j := by omega
    have hoi := hw.at (i + j)
    obtain ⟨hh, l, h1, h2, h3, h4⟩ := Mul64_x (s := s) hx (hy.at j)
    obtain ⟨l2, c2, h5, h6, h7, h8⟩ := Add64_x (s := s) zero_u h2 hc (by omega)
    obtain ⟨w, c3, h9, h10, h11, h12⟩ := Add64_x (s := s) zero_u hoi h5 (by omega)
    have hst := fun w => store1 (j := i + j) (x := u64 w) hloc.get hloc.wm (by simp; omega) rfl
    have hld := load1_at (g := s.get) (j := i + j) hloc.get (by simp; omega)
    rw [map_getD (by omega)] at hld
    refine loopK.stepAs c_mag_Mul_lp0.eq_1 ?_
    simp (disch := omega) only [hlt, rb.addr, ht, rb.load0, hyb, k_skip, k_seq, k_cond, k_block, k_loop, k_range, k_exit, k_scope, k_ret, k_region, c_nil, c_seq, c_blk, c_lp, e_nil, e_seq, e_blk, e_lp, r_nil, r_seq, r_blk, r_lp, o_nil, o_p, o_pg, o_l, o_a, o_c, o_cg, o_store, o_mapU, o_app, o_copy, o_del, evP, evA, ev_tmp, ev_const, ev_func, evArgs_nil, evArgs_cons, evParts_nil, evParts_cons, evOpt_none, evOpt_some, putO_some, putO_none, restrict_cons, restrict_nil, argFr_cons, argFr_nil, upd_app, Nat.reduceAdd, Nat.reduceEqDiff, Nat.zero_add, Nat.add_zero, bump_zero, St.bump_next, St.put_next, decide_eq_true_eq, condK_bool, stepP_some, stepA_some, stepE_some, stepE_pend, grdK_bool, grdK_undf, opPick_dec, opPick_true, opPick_false, bin_eql, bin_neq, bin_lss, bin_leq, bin_gtr, bin_geq, bin_add64, bin_sub64, bin_mul64, pendOk_nil, passed_nil, n_add, n_mul, n_and, bin_and32, bin_shr32, conv_nat, un_not, conv_64, decide_true, decide_false, true_implies, false_implies, forall_const, and_true, true_and, eq_self, ne_eq, ↓reduceIte, implies_true, Int.reduceLT, Int.reduceGT, Int.reduceLE, Int.reduceEq, Int.reduceNeg, and_self, Bool.not_eq_true, end_ret, end_nrm, endK_some, res_nil, res_tmp, res_cell1, res_cellN, resVal_one, resVal_none, resVal_two, Option.map_some, Option.bind_some, opExtract_eq, List.getElem?_cons_zero, List.getElem?_cons_succ, opNil_ptr, fld_ptr, Nat.mul_one, kbb]
    refine callK.of0 h4 ?_
    simp (disch := omega) only [k_skip, k_seq, k_cond, k_block, k_loop, k_range, k_exit, k_scope, k_ret, k_region, c_nil, c_seq, c_blk, c_lp, e_nil, e_seq, e_blk, e_lp, r_nil, r_seq, r_blk, r_lp, o_nil, o_p, o_pg, o_l, o_a, o_c, o_cg, o_store, o_mapU, o_app, o_copy, o_del, evP, evA, ev_tmp, ev_const, ev_func, evArgs_nil, evArgs_cons, evParts_nil, evParts_cons, evOpt_none, evOpt_some, putO_some, putO_none, restrict_cons, restrict_nil, argFr_cons, argFr_nil, upd_app, Nat.reduceAdd, Nat.reduceEqDiff, Nat.zero_add, Nat.add_zero, bump_zero, St.bump_next, St.put_next, decide_eq_true_eq, condK_bool, stepP_some, stepA_some, stepE_some, stepE_pend, grdK_bool, grdK_undf, opPick_dec, opPick_true, opPick_false, bin_eql, bin_neq, bin_lss, bin_leq, bin_gtr, bin_geq, bin_add64, bin_sub64, bin_mul64, pendOk_nil, passed_nil, n_add, n_mul, n_and, bin_and32, bin_shr32, conv_nat, un_not, conv_64, decide_true, decide_false, true_implies, false_implies, forall_const, and_true, true_and, eq_self, ne_eq, ↓reduceIte, implies_true, Int.reduceLT, Int.reduceGT, Int.reduceLE, Int.reduceEq, Int.reduceNeg, and_self, Bool.not_eq_true, end_ret, end_nrm, endK_some, res_nil, res_tmp, res_cell1, res_cellN, resVal_one, resVal_none, resVal_two, Option.map_some, Option.bind_some, opExtract_eq, List.getElem?_cons_zero, List.getElem?_cons_succ, opNil_ptr, fld_ptr, Nat.mul_one, kbb]
    refine callK.of0 h8 ?_
    simp (disch := omega) only [sl_addr, hij, hld, k_skip, k_seq, k_cond, k_block, k_loop, k_range, k_exit, k_scope, k_ret, k_region, c_nil, c_seq, c_blk, c_lp, e_nil, e_seq, e_blk, e_lp, r_nil, r_seq, r_blk, r_lp, o_nil, o_p, o_pg, o_l, o_a, o_c, o_cg, o_store, o_mapU, o_app, o_copy, o_del, evP, evA, ev_tmp, ev_const, ev_func, evArgs_nil, evArgs_cons, evParts_nil, evParts_cons, evOpt_none, evOpt_some, putO_some, putO_none, restrict_cons, restrict_nil, argFr_cons, argFr_nil, upd_app, Nat.reduceAdd, Nat.reduceEqDiff, Nat.zero_add, Nat.add_zero, bump_zero, St.bump_next, St.put_next, decide_eq_true_eq, condK_bool, stepP_some, stepA_some, stepE_some, stepE_pend, grdK_bool, grdK_undf, opPick_dec, opPick_true, opPick_false, bin_eql, bin_neq, bin_lss, bin_leq, bin_gtr, bin_geq, bin_add64, bin_sub64, bin_mul64, pendOk_nil, passed_nil, n_add, n_mul, n_and, bin_and32, bin_shr32, conv_nat, un_not, conv_64, decide_true, decide_false, true_implies, false_implies, forall_const, and_true, true_and, eq_self, ne_eq, ↓reduceIte, implies_true, Int.reduceLT, Int.reduceGT, Int.reduceLE, Int.reduceEq, Int.reduceNeg, and_self, Bool.not_eq_true, end_ret, end_nrm, endK_some, res_nil, res_tmp, res_cell1, res_cellN, resVal_one, resVal_none, resVal_two, Option.map_some, Option.bind_some, opExtract_eq, List.getElem?_cons_zero, List.getElem?_cons_succ, opNil_ptr, fld_ptr, Nat.mul_one, kbb]
    refine callK.of0 h12 ?_
    simp (disch := omega) only [sl_addr, hst, hij, hj1, k_skip, k_seq, k_cond, k_block, k_loop, k_range, k_exit, k_scope, k_ret, k_region, c_nil, c_seq, c_blk, c_lp, e_nil, e_seq, e_blk, e_lp, r_nil, r_seq, r_blk, r_lp, o_nil, o_p, o_pg, o_l, o_a, o_c, o_cg, o_store, o_mapU, o_app, o_copy, o_del, evP, evA, ev_tmp, ev_const, ev_func, evArgs_nil, evArgs_cons, evParts_nil, evParts_cons, evOpt_none, evOpt_some, putO_some, putO_none, restrict_cons, restrict_nil, argFr_cons, argFr_nil, upd_app, Nat.reduceAdd, Nat.reduceEqDiff, Nat.zero_add, Nat.add_zero, bump_zero, St.bump_next, St.put_next, decide_eq_true_eq, condK_bool, stepP_some, stepA_some, stepE_some, stepE_pend, grdK_bool, grdK_undf, opPick_dec, opPick_true, opPick_false, bin_eql, bin_neq, bin_lss, bin_leq, bin_gtr, bin_geq, bin_add64, bin_sub64, bin_mul64, pendOk_nil, passed_nil, n_add, n_mul, n_and, bin_and32, bin_shr32, conv_nat, un_not, conv_64, decide_true, decide_false, true_implies, false_implies, forall_const, and_true, true_and, eq_self, ne_eq, ↓reduceIte, implies_true, Int.reduceLT, Int.reduceGT, Int.reduceLE, Int.reduceEq, Int.reduceNeg, and_self, Bool.not_eq_true, end_ret, end_nrm, endK_some, res_nil, res_tmp, res_cell1, res_cellN, resVal_one, resVal_none, resVal_two, Option.map_some, Option.bind_some, opExtract_eq, List.getElem?_cons_zero, List.getElem?_cons_succ, opNil_ptr, fld_ptr, Nat.mul_one, kbb]
    have e1 : (hh + c2) % 18446744073709551616 = hh + c2 := Nat.mod_eq_of_lt (by omega)
    have hc' : hh + c2 + c3 < 18446744073709551616 := by
      have b1 : x * ys.getD j 0 ≤ 18446744073709551615 * 18446744073709551615 := Nat.mul_le_mul (by omega) (by have := hy.at j; omega)
      omega
    have e2 : (hh + c2 + c3) % 18446744073709551616 = hh + c2 + c3 := Nat.mod_eq_of_lt hc'
    rw [e1, e2]
    refine ih (j + 1) _ _ _ (by omega) (hloc.set (i + j) w) (by simpa using hol) (wd_set hw _ h9) (fun k hk => by rw [getD_set_ne (by omega)]; exact hz k hk) hc' ?_
    have hs := val_set (ws := os) (k := i + j) (w := w) (by omega)
    rw [val_take_succ (by omega), Nat.mul_add x, Nat.mul_add (18446744073709551616 ^ i)]
    have e3 : 18446744073709551616 ^ (i + (j + 1)) * (hh + c2 + c3) = 18446744073709551616 ^ (i + j) * (18446744073709551616 * (hh + c2 + c3)) := by
      rw [← Nat.mul_assoc, ← Nat.pow_succ]; rfl
    have e4 : 18446744073709551616 ^ i * (x * (18446744073709551616 ^ j * ys.getD j 0)) = 18446744073709551616 ^ (i + j) * (x * ys.getD j 0) := by
      rw [Nat.pow_add, Nat.mul_left_comm x, Nat.mul_assoc]
    have e5 : w + 18446744073709551616 * (hh + c2 + c3) = x * ys.getD j 0 + c + os.getD (i + j) 0 := by omega
    have e6 : 18446744073709551616 ^ (i + j) * (w + 18446744073709551616 * (hh + c2 + c3)) = 18446744073709551616 ^ (i + j) * (x * ys.getD j 0 + c + os.getD (i + j) 0) := by rw [e5]
    rw [Nat.mul_add _ w, Nat.mul_add _ (x * ys.getD j 0 + c), Nat.mul_add _ (x * ys.getD j 0)] at e6
    rw [e3, e4]
    omega

theorem Mul_loop1 {s0 : St} {a b : Value} {xs ys : List Nat} (ha : RowL s0 1 a (W xs)) (hb : RowL s0 1 b (W ys)) (hx : Wd xs) (hy : Wd ys) {ob L : Nat} (hL : L = xs.length + ys.length) (hbig : L ≤ 2199023255552)
    {k : List KItem} {Q : Ex → Fr → St → Prop}
    (hexit : ∀ s os G, Loc s0 s ob os → os.length = L → Wd os → val os = val xs * val ys → contK prog (upd (upd G 5 (.slice (some ⟨ob, 0, none⟩) L 1)) 1 b) s k Q) :
    ∀ m i s os, i + m = xs.length → Loc s0 s ob os → os.length = L → Wd os → (∀ k, i + ys.length ≤ k → os.getD k 0 = 0) → val os = val (xs.take i) * val ys →
      loopK prog [1, 5, 20, 21, 22] c_mag_Mul_lp1 (upd (upd (upd (upd (upd (fun _ => unk) 22 (i64 i)) 21 (i64 xs.length)) 20 a) 5 (.slice (some ⟨ob, 0, none⟩) L 1)) 1 b) s (.blk 0 :: k) Q := by
  intro m
  induction m with
  | zero =>
    intro i s os hi hloc hol hw hz hv
    have hi : i = xs.length := by omega
    subst hi
    have hlt : ¬ (xs.length : Int) < xs.length := by omega
    refine loopK.stepAs c_mag_Mul_lp1.eq_1 ?_
    simp only [hlt, k_skip, k_seq, k_cond, k_block, k_loop, k_range, k_exit, k_scope, k_ret, k_region, c_nil, c_seq, c_blk, c_lp, e_nil, e_seq, e_blk, e_lp, r_nil, r_seq, r_blk, r_lp, o_nil, o_p, o_pg, o_l, o_a, o_c, o_cg, o_store, o_mapU, o_app, o_copy, o_del, evP, evA, ev_tmp, ev_const, ev_func, evArgs_nil, evArgs_cons, evParts_nil, evParts_cons, evOpt_none, evOpt_some, putO_some, putO_none, restrict_cons, restrict_nil, argFr_cons, argFr_nil, upd_app, Nat.reduceAdd, Nat.reduceEqDiff, Nat.zero_add, Nat.add_zero, bump_zero, St.bump_next, St.put_next, decide_eq_true_eq, condK_bool, stepP_some, stepA_some, stepE_some, stepE_pend, grdK_bool, grdK_undf, opPick_dec, opPick_true, opPick_false, bin_eql, bin_neq, bin_lss, bin_leq, bin_gtr, bin_geq, bin_add64, bin_sub64, bin_mul64, pendOk_nil, passed_nil, n_add, n_mul, n_and, bin_and32, bin_shr32, conv_nat, un_not, conv_64, decide_true, decide_false, true_implies, false_implies, forall_const, and_true, true_and, eq_self, ne_eq, ↓reduceIte, implies_true, Int.reduceLT, Int.reduceGT, Int.reduceLE, Int.reduceEq, Int.reduceNeg, and_self, Bool.not_eq_true, end_ret, end_nrm, endK_some, res_nil, res_tmp, res_cell1, res_cellN, resVal_one, resVal_none, resVal_two, Option.map_some, Option.bind_some, opExtract_eq, List.getElem?_cons_zero, List.getElem?_cons_succ, opNil_ptr, fld_ptr, Nat.mul_one, kbb]
    rw [List.take_length] at hv
    exact hexit s os _ hloc hol hw hv
  | succ m ih =>
    intro i s os hi hloc hol hw hz hv
    have hlt : (i : Int) < xs.length := by omega
    have ra := ha s hloc.later
    have hlx := W_len xs
    have ht : (i : Int).toNat = i := by omega
    have hxa := W_at (ws := xs) (i := i) (by omega)
    have hi1 : (i : Int) + 1 = (i + 1 : Nat) := by omega
    have lb := (hb s hloc.later).len
    rw [W_len] at lb
    refine loopK.stepAs c_mag_Mul_lp1.eq_1 ?_
    simp (disch := omega) only [hlt, ra.addr, ht, ra.load0, hxa, lb, k_skip, k_seq, k_cond, k_block, k_loop, k_range, k_exit, k_scope, k_ret, k_region, c_nil, c_seq, c_blk, c_lp, e_nil, e_seq, e_blk, e_lp, r_nil, r_seq, r_blk, r_lp, o_nil, o_p, o_pg, o_l, o_a, o_c, o_cg, o_store, o_mapU, o_app, o_copy, o_del, evP, evA, ev_tmp, ev_const, ev_func, evArgs_nil, evArgs_cons, evParts_nil, evParts_cons, evOpt_none, evOpt_some, putO_some, putO_none, restrict_cons, restrict_nil, argFr_cons, argFr_nil, upd_app, Nat.reduceAdd, Nat.reduceEqDiff, Nat.zero_add, Nat.add_zero, bump_zero, St.bump_next, St.put_next, decide_eq_true_eq, condK_bool, stepP_some, stepA_some, stepE_some, stepE_pend, grdK_bool, grdK_undf, opPick_dec, opPick_true, opPick_false, bin_eql, bin_neq, bin_lss, bin_leq, bin_gtr, bin_geq, bin_add64, bin_sub64, bin_mul64, pendOk_nil, passed_nil, n_add, n_mul, n_and, bin_and32, bin_shr32, conv_nat, un_not, conv_64, decide_true, decide_false, true_implies, false_implies, forall_const, and_true, true_and, eq_self, ne_eq, ↓reduceIte, implies_true, Int.reduceLT, Int.reduceGT, Int.reduceLE, Int.reduceEq, Int.reduceNeg, and_self, Bool.not_eq_true, end_ret, end_nrm, endK_some, res_nil, res_tmp, res_cell1, res_cellN, resVal_one, resVal_none, resVal_two, Option.map_some, Option.bind_some, opExtract_eq, List.getElem?_cons_zero, List.getElem?_cons_succ, opNil_ptr, fld_ptr, Nat.mul_one, kbb]
    refine Mul_loop0 (T := val os) hb hy (hx.at i) hL (by omega) hbig ?_ ys.length 0 s os 0 (by omega) hloc hol hw hz (by omega) (by simp [val])
    intro s1 os1 c G hloc1 hol1 hw1 hz1 hc1 hv1
    have lb1 := (hb s1 hloc1.later).len
    rw [W_len] at lb1
    have hij : ((i : Int) + (ys.length : Int)).toNat = i + ys.length := by omega
    have hst := fun w => store1 (j := i + ys.length) (x := u64 w) hloc1.get hloc1.wm (by simp; omega) rfl
    simp (disch := omega) only [lb1, sl_addr, hij, hst, hi1, k_skip, k_seq, k_cond, k_block, k_loop, k_range, k_exit, k_scope, k_ret, k_region, c_nil, c_seq, c_blk, c_lp, e_nil, e_seq, e_blk, e_lp, r_nil, r_seq, r_blk, r_lp, o_nil, o_p, o_pg, o_l, o_a, o_c, o_cg, o_store, o_mapU, o_app, o_copy, o_del, evP, evA, ev_tmp, ev_const, ev_func, evArgs_nil, evArgs_cons, evParts_nil, evParts_cons, evOpt_none, evOpt_some, putO_some, putO_none, restrict_cons, restrict_nil, argFr_cons, argFr_nil, upd_app, Nat.reduceAdd, Nat.reduceEqDiff, Nat.zero_add, Nat.add_zero, bump_zero, St.bump_next, St.put_next, decide_eq_true_eq, condK_bool, stepP_some, stepA_some, stepE_some, stepE_pend, grdK_bool, grdK_undf, opPick_dec, opPick_true, opPick_false, bin_eql, bin_neq, bin_lss, bin_leq, bin_gtr, bin_geq, bin_add64, bin_sub64, bin_mul64, pendOk_nil, passed_nil, n_add, n_mul, n_and, bin_and32, bin_shr32, conv_nat, un_not, conv_64, decide_true, decide_false, true_implies, false_implies, forall_const, and_true, true_and, eq_self, ne_eq, ↓reduceIte, implies_true, Int.reduceLT, Int.reduceGT, Int.reduceLE, Int.reduceEq, Int.reduceNeg, and_self, Bool.not_eq_true, end_ret, end_nrm, endK_some, res_nil, res_tmp, res_cell1, res_cellN, resVal_one, resVal_none, resVal_two, Option.map_some, Option.bind_some, opExtract_eq, List.getElem?_cons_zero, List.getElem?_cons_succ, opNil_ptr, fld_ptr, Nat.mul_one, kbb]
    refine ih (i + 1) _ _ (by omega) (hloc1.set _ c) (by simpa using hol1) (wd_set hw1 _ hc1) (fun k hk => by rw [getD_set_ne (by omega)]; exact hz1 k (by omega)) ?_
    have hs := val_set (ws := os1) (k := i + ys.length) (w := c) (by omega)
    rw [hz1 _ (Nat.le_refl _)] at hs
    rw [val_take_succ (by omega), Nat.add_mul, Nat.mul_assoc]
    omega

theorem Mul_ret {s : St} (hf : Fresh s) {a b : Value} {xs ys : List Nat} (ha : MagV s a xs) (hb : MagV s b ys) (hl : xs.length + ys.length ≤ 1099511627776) :
    ∃ v, Ret prog (fv n_mag_Mul) [a, b] s v s ∧ IsMag v (val xs * val ys) := by
  refine ret_pure p_Mul rfl (by simp [c_mag_Mul]) fun s0 hs0 => ?_
  have hL : Later s s0 := by subst hs0; exact Later.callee s
  have hf0 : Fresh s0 := by subst hs0; exact hf
  have hnx : s0.next = s.next := by subst hs0; rfl
  have hwm0 : s0.wm ≤ s0.next := by subst hs0; exact Nat.le_refl _
  have la := ha.lenI hL
  have lb := hb.lenI hL
  have ht : ((xs.length : Int) + (ys.length : Int)).toNat = xs.length + ys.length := by omega
  simp (disch := omega) only [c_mag_Mul, k_skip, k_seq, k_cond, k_block, k_loop, k_range, k_exit, k_scope, k_ret, k_region, c_nil, c_seq, c_blk, c_lp, e_nil, e_seq, e_blk, e_lp, r_nil, r_seq, r_blk, r_lp, o_nil, o_p, o_pg, o_l, o_a, o_c, o_cg, o_store, o_mapU, o_app, o_copy, o_del, evP, evA, ev_tmp, ev_const, ev_func, evArgs_nil, evArgs_cons, evParts_nil, evParts_cons, evOpt_none, evOpt_some, putO_some, putO_none, restrict_cons, restrict_nil, argFr_cons, argFr_nil, upd_app, Nat.reduceAdd, Nat.reduceEqDiff, Nat.zero_add, Nat.add_zero, bump_zero, St.bump_next, St.put_next, decide_eq_true_eq, condK_bool, stepP_some, stepA_some, stepE_some, stepE_pend, grdK_bool, grdK_undf, opPick_dec, opPick_true, opPick_false, bin_eql, bin_neq, bin_lss, bin_leq, bin_gtr, bin_geq, bin_add64, bin_sub64, bin_mul64, pendOk_nil, passed_nil, n_add, n_mul, n_and, bin_and32, bin_shr32, conv_nat, un_not, conv_64, decide_true, decide_false, true_implies, false_implies, forall_const, and_true, true_and, eq_self, ne_eq, ↓reduceIte, implies_true, Int.reduceLT, Int.reduceGT, Int.reduceLE, Int.reduceEq, Int.reduceNeg, and_self, Bool.not_eq_true, end_ret, end_nrm, endK_some, res_nil, res_tmp, res_cell1, res_cellN, resVal_one, resVal_none, resVal_two, Option.map_some, Option.bind_some, opExtract_eq, List.getElem?_cons_zero, List.getElem?_cons_succ, opNil_ptr, fld_ptr, Nat.mul_one, kbb, la, lb, make_row, ht, reps_one]
  have hmk := Loc.make hf0 hwm0 (xs.length + ys.length)
  refine Mul_loop1 (ha.later hL).row (hb.later hL).row ha.wd hb.wd rfl (by omega) ?_ xs.length 0 _ _ (by omega) hmk (by simp) (wd_rep _) ?_ (by simp [val, val_replicate])
  · intro s1 os G hloc hol hw hval
    simp only [k_skip, k_seq, k_cond, k_block, k_loop, k_range, k_exit, k_scope, k_ret, k_region, c_nil, c_seq, c_blk, c_lp, e_nil, e_seq, e_blk, e_lp, r_nil, r_seq, r_blk, r_lp, o_nil, o_p, o_pg, o_l, o_a, o_c, o_cg, o_store, o_mapU, o_app, o_copy, o_del, evP, evA, ev_tmp, ev_const, ev_func, evArgs_nil, evArgs_cons, evParts_nil, evParts_cons, evOpt_none, evOpt_some, putO_some, putO_none, restrict_cons, restrict_nil, argFr_cons, argFr_nil, upd_app, Nat.reduceAdd, Nat.reduceEqDiff, Nat.zero_add, Nat.add_zero, bump_zero, St.bump_next, St.put_next, decide_eq_true_eq, condK_bool, stepP_some, stepA_some, stepE_some, stepE_pend, grdK_bool, grdK_undf, opPick_dec, opPick_true, opPick_false, bin_eql, bin_neq, bin_lss, bin_leq, bin_gtr, bin_geq, bin_add64, bin_sub64, bin_mul64, pendOk_nil, passed_nil, n_add, n_mul, n_and, bin_and32, bin_shr32, conv_nat, un_not, conv_64, decide_true, decide_false, true_implies, false_implies, forall_const, and_true, true_and, eq_self, ne_eq, ↓reduceIte, implies_true, Int.reduceLT, Int.reduceGT, Int.reduceLE, Int.reduceEq, Int.reduceNeg, and_self, Bool.not_eq_true, end_ret, end_nrm, endK_some, res_nil, res_tmp, res_cell1, res_cellN, resVal_one, resVal_none, resVal_two, Option.map_some, Option.bind_some, opExtract_eq, List.getElem?_cons_zero, List.getElem?_cons_succ, opNil_ptr, fld_ptr, Nat.mul_one, kbb]
    have hm := hloc.mag hw (by omega)
    have hset := hloc.settle hw
    rw [hol] at hm hset
    refine callK.of0 (right_ret hm) ?_
    simp only [k_skip, k_seq, k_cond, k_block, k_loop, k_range, k_exit, k_scope, k_ret, k_region, c_nil, c_seq, c_blk, c_lp, e_nil, e_seq, e_blk, e_lp, r_nil, r_seq, r_blk, r_lp, o_nil, o_p, o_pg, o_l, o_a, o_c, o_cg, o_store, o_mapU, o_app, o_copy, o_del, evP, evA, ev_tmp, ev_const, ev_func, evArgs_nil, evArgs_cons, evParts_nil, evParts_cons, evOpt_none, evOpt_some, putO_some, putO_none, restrict_cons, restrict_nil, argFr_cons, argFr_nil, upd_app, Nat.reduceAdd, Nat.reduceEqDiff, Nat.zero_add, Nat.add_zero, bump_zero, St.bump_next, St.put_next, decide_eq_true_eq, condK_bool, stepP_some, stepA_some, stepE_some, stepE_pend, grdK_bool, grdK_undf, opPick_dec, opPick_true, opPick_false, bin_eql, bin_neq, bin_lss, bin_leq, bin_gtr, bin_geq, bin_add64, bin_sub64, bin_mul64, pendOk_nil, passed_nil, n_add, n_mul, n_and, bin_and32, bin_shr32, conv_nat, un_not, conv_64, decide_true, decide_false, true_implies, false_implies, forall_const, and_true, true_and, eq_self, ne_eq, ↓reduceIte, implies_true, Int.reduceLT, Int.reduceGT, Int.reduceLE, Int.reduceEq, Int.reduceNeg, and_self, Bool.not_eq_true, end_ret, end_nrm, endK_some, res_nil, res_tmp, res_cell1, res_cellN, resVal_one, resVal_none, resVal_two, Option.map_some, Option.bind_some, opExtract_eq, List.getElem?_cons_zero, List.getElem?_cons_succ, opNil_ptr, fld_ptr, Nat.mul_one, kbb]
    rw [hval] at hset
    rw [hval, ← hnx]
    exact hset
  · intro k hk
    rw [List.getD, List.getElem?_replicate]
    split <;> rfl
end Go.Iso

