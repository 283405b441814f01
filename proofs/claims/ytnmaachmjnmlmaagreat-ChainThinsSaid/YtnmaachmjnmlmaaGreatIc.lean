/-
  Points with rational coordinates; tame ones.

  Slices that a function makes: of its own blocks; append.

  Lines made thin.

  Lines made thin: what is answered.

  Points made tame.

  The law of thin lines: what its loops carry.

  The law of thin lines: its loops.

  The law of thin lines: the loop over its points.

  The law of thin lines: it answers true.
-/
import Derived.Test.YtnmaachmjnmlmaaGreatIb
set_option linter.unusedVariables false
set_option linter.unusedSimpArgs false
set_option linter.unusedSectionVars false
namespace Go.Iso
open Go.Ev
variable {prog : Nat → Option CDecl} [A : Arith prog]

theorem p_sSame : prog n_spot_Same = some (.fn c_spot_Same) := A.p_sSame
theorem p_Tame1 : prog n_l07_Tame_1 = some (.fn c_l07_Tame_1) := A.p_Tame1
theorem p_Tame : prog n_l07_Tame = some (.fn c_l07_Tame) := A.p_Tame

structure IsSpot (V : Value) (p : Rat × Rat) : Prop where
  is : ∃ n d m e, V = .agg ⟨[.bool (decide (p.1.num < 0)), n, d, .bool (decide (p.2.num < 0)), m, e]⟩ ∧ IsMag n p.1.num.natAbs ∧ IsMag d p.1.den ∧ IsMag m p.2.num.natAbs ∧ IsMag e p.2.den
def Ss (p : Rat × Rat) : Prop := Sq p.1 ∧ Sq p.2
theorem stl6 {a b c d e f : Value} {n : Nat} (h1 : Stl n a) (h2 : Stl n b) (h3 : Stl n c) (h4 : Stl n d) (h5 : Stl n e) (h6 : Stl n f) : Stl (n + 1) (.agg ⟨[a, b, c, d, e, f]⟩) := by
  refine stl_agg fun v hv => ?_
  simp only [List.mem_cons, List.not_mem_nil, or_false] at hv
  rcases hv with rfl | rfl | rfl | rfl | rfl | rfl <;> assumption
theorem IsSpot.stl {V : Value} {p : Rat × Rat} (h : IsSpot V p) : Stl 4 V := by
  obtain ⟨n, d, m, e, rfl, h1, h2, h3, h4⟩ := h.is
  exact stl6 ((stl_bool _).up (by omega)) h1.stl h2.stl ((stl_bool _).up (by omega)) h3.stl h4.stl
theorem IsSpot.fst {V : Value} {p : Rat × Rat} (h : IsSpot V p) : ∃ n d m e, V = .agg ⟨[.bool (decide (p.1.num < 0)), n, d, .bool (decide (p.2.num < 0)), m, e]⟩ ∧
    IsFrac (.agg ⟨[.bool (decide (p.1.num < 0)), n, d]⟩) p.1 ∧ IsFrac (.agg ⟨[.bool (decide (p.2.num < 0)), m, e]⟩) p.2 ∧ IsMag n p.1.num.natAbs ∧ IsMag d p.1.den ∧ IsMag m p.2.num.natAbs ∧ IsMag e p.2.den := by
  obtain ⟨n, d, m, e, rfl, h1, h2, h3, h4⟩ := h.is
  exact ⟨n, d, m, e, rfl, ⟨n, d, rfl, h1, h2⟩, ⟨m, e, rfl, h3, h4⟩, h1, h2, h3, h4⟩

theorem sSame_ret {s : St} (hf : Fresh s) {A B : Value} {a b : Rat × Rat} (hA : IsSpot A a) (hB : IsSpot B b) (hsa : Ss a) (hsb : Ss b) : Ret prog (fv n_spot_Same) [A, B] s (.bool (decide (a = b))) s := by
  suffices hh : ∃ v', Ret prog (fv n_spot_Same) [A, B] s v' s ∧ v' = .bool (decide (a = b)) by
    obtain ⟨v', h1, rfl⟩ := hh; exact h1
  obtain ⟨n1, d1, m1, e1, rfl, fa1, fa2, a1, a2, a3, a4⟩ := hA.fst
  obtain ⟨n2, d2, m2, e2, rfl, fb1, fb2, b1, b2, b3, b4⟩ := hB.fst
  refine ret_pure p_sSame rfl (by simp [c_spot_Same]) fun s0 hs0 => ?_
  have hf0 : Fresh s0 := by subst hs0; exact hf
  have hf1 : Fresh (((s0.bump 2).put s0.next (.cells false [.bool (decide (a.1.num < 0)), n1, d1, .bool (decide (a.2.num < 0)), m1, e1])).put (s0.next + 1) (.cells false [.bool (decide (b.1.num < 0)), n2, d2, .bool (decide (b.2.num < 0)), m2, e2])) :=
    ((hf0.bump 2).put (by simp)).put (by simp)
  simp (disch := omega) only [c_spot_Same, k_skip, k_seq, k_cond, k_block, k_loop, k_range, k_exit, k_scope, k_ret, k_region, c_nil, c_seq, c_blk, c_lp, e_nil, e_seq, e_blk, e_lp, r_nil, r_seq, r_blk, r_lp, o_nil, o_p, o_pg, o_l, o_a, o_c, o_cg, o_store, o_mapU, o_app, o_copy, o_del, evP, evA, ev_tmp, ev_const, ev_func, evArgs_nil, evArgs_cons, evParts_nil, evParts_cons, evOpt_none, evOpt_some, putO_some, putO_none, restrict_cons, restrict_nil, argFr_cons, argFr_nil, upd_app, Nat.reduceAdd, Nat.reduceEqDiff, Nat.zero_add, Nat.add_zero, bump_zero, St.bump_next, St.put_next, decide_eq_true_eq, condK_bool, stepP_some, stepA_some, stepE_some, stepE_pend, grdK_bool, grdK_undf, opPick_dec, opPick_true, opPick_false, bin_eql, bin_neq, bin_lss, bin_leq, bin_gtr, bin_geq, bin_add64, bin_sub64, bin_mul64, pendOk_nil, passed_nil, n_add, n_mul, n_and, bin_and32, bin_shr32, conv_nat, un_not, conv_64, decide_true, decide_false, true_implies, false_implies, forall_const, and_true, true_and, eq_self, ne_eq, ↓reduceIte, implies_true, Int.reduceLT, Int.reduceGT, Int.reduceLE, Int.reduceEq, Int.reduceNeg, and_self, Bool.not_eq_true, end_ret, end_nrm, endK_some, res_nil, res_tmp, res_cell1, res_cellN, resVal_one, resVal_none, resVal_two, Option.map_some, Option.bind_some, opExtract_eq, List.getElem?_cons_zero, List.getElem?_cons_succ, opNil_ptr, fld_ptr, Nat.mul_one, kbb, loadV_box, load1_box, loadN_box, cellsN_some, drop?_zero, drop?_succ, take?_zero, take?_succ, one?_some, store_box, storeC_some, get_eq, get_ne, loadOf_1, loadOf_n, stepL_some, loadK_some, pend_zero, pend_succ, passed_one, passed_more, prevOk_zero, prevOk_nil, prevOk_cons, pendOk_cons, sameLoadK_eq, St.bump_get, bump_getF, St.bump_wm, St.put_wm, St.get_put, Nat.le_add_right, Nat.le_refl, Bool.true_and, Bool.and_true, Bool.and_self, opBuild_eq, opBox_eq, parts_nil, parts_cons, fill_nil, fill_cons, splice_nil, splice_zero, splice_succ, vcells_int, vcells_bool, vcells_ptr, vcells_slice, vcells_map, vcells_agg, one_int, one_bool, one_ptr, one_slice, one_map, List.length_cons, List.length_nil, List.all_cons, List.all_nil, List.append_nil, List.cons_append, List.nil_append, sameK_eq, vsamesF_nil, vsamesF_cons, same_bool, same_int, same_ptr, same_slice, same_map, eq_bool, neq_bool, a1.one, a2.one, a3.one, a4.one, b1.one, b2.one, b3.one, b4.one]
  refine callK.ofS (fSame_ret hf1 fa1 fb1 hsa.1 hsb.1) ?_
  have e0 : (decide (a = b)) = (decide (a.1 = b.1) && decide (a.2 = b.2)) := by
    rw [← Bool.decide_and]
    exact decide_eq_decide.2 Prod.ext_iff
  by_cases h1 : a.1 = b.1
  · have hd1 : decide (a.1 = b.1) = true := decide_eq_true h1
    simp (disch := omega) only [hd1, k_skip, k_seq, k_cond, k_block, k_loop, k_range, k_exit, k_scope, k_ret, k_region, c_nil, c_seq, c_blk, c_lp, e_nil, e_seq, e_blk, e_lp, r_nil, r_seq, r_blk, r_lp, o_nil, o_p, o_pg, o_l, o_a, o_c, o_cg, o_store, o_mapU, o_app, o_copy, o_del, evP, evA, ev_tmp, ev_const, ev_func, evArgs_nil, evArgs_cons, evParts_nil, evParts_cons, evOpt_none, evOpt_some, putO_some, putO_none, restrict_cons, restrict_nil, argFr_cons, argFr_nil, upd_app, Nat.reduceAdd, Nat.reduceEqDiff, Nat.zero_add, Nat.add_zero, bump_zero, St.bump_next, St.put_next, decide_eq_true_eq, condK_bool, stepP_some, stepA_some, stepE_some, stepE_pend, grdK_bool, grdK_undf, opPick_dec, opPick_true, opPick_false, bin_eql, bin_neq, bin_lss, bin_leq, bin_gtr, bin_geq, bin_add64, bin_sub64, bin_mul64, pendOk_nil, passed_nil, n_add, n_mul, n_and, bin_and32, bin_shr32, conv_nat, un_not, conv_64, decide_true, decide_false, true_implies, false_implies, forall_const, and_true, true_and, eq_self, ne_eq, ↓reduceIte, implies_true, Int.reduceLT, Int.reduceGT, Int.reduceLE, Int.reduceEq, Int.reduceNeg, and_self, Bool.not_eq_true, end_ret, end_nrm, endK_some, res_nil, res_tmp, res_cell1, res_cellN, resVal_one, resVal_none, resVal_two, Option.map_some, Option.bind_some, opExtract_eq, List.getElem?_cons_zero, List.getElem?_cons_succ, opNil_ptr, fld_ptr, Nat.mul_one, kbb, loadV_box, load1_box, loadN_box, cellsN_some, drop?_zero, drop?_succ, take?_zero, take?_succ, one?_some, store_box, storeC_some, get_eq, get_ne, loadOf_1, loadOf_n, stepL_some, loadK_some, pend_zero, pend_succ, passed_one, passed_more, prevOk_zero, prevOk_nil, prevOk_cons, pendOk_cons, sameLoadK_eq, St.bump_get, bump_getF, St.bump_wm, St.put_wm, St.get_put, Nat.le_add_right, Nat.le_refl, Bool.true_and, Bool.and_true, Bool.and_self, opBuild_eq, opBox_eq, parts_nil, parts_cons, fill_nil, fill_cons, splice_nil, splice_zero, splice_succ, vcells_int, vcells_bool, vcells_ptr, vcells_slice, vcells_map, vcells_agg, one_int, one_bool, one_ptr, one_slice, one_map, List.length_cons, List.length_nil, List.all_cons, List.all_nil, List.append_nil, List.cons_append, List.nil_append, sameK_eq, vsamesF_nil, vsamesF_cons, same_bool, same_int, same_ptr, same_slice, same_map, eq_bool, neq_bool]
    refine callK.ofS (fSame_ret hf1 fa2 fb2 hsa.2 hsb.2) ?_
    simp (disch := omega) only [k_skip, k_seq, k_cond, k_block, k_loop, k_range, k_exit, k_scope, k_ret, k_region, c_nil, c_seq, c_blk, c_lp, e_nil, e_seq, e_blk, e_lp, r_nil, r_seq, r_blk, r_lp, o_nil, o_p, o_pg, o_l, o_a, o_c, o_cg, o_store, o_mapU, o_app, o_copy, o_del, evP, evA, ev_tmp, ev_const, ev_func, evArgs_nil, evArgs_cons, evParts_nil, evParts_cons, evOpt_none, evOpt_some, putO_some, putO_none, restrict_cons, restrict_nil, argFr_cons, argFr_nil, upd_app, Nat.reduceAdd, Nat.reduceEqDiff, Nat.zero_add, Nat.add_zero, bump_zero, St.bump_next, St.put_next, decide_eq_true_eq, condK_bool, stepP_some, stepA_some, stepE_some, stepE_pend, grdK_bool, grdK_undf, opPick_dec, opPick_true, opPick_false, bin_eql, bin_neq, bin_lss, bin_leq, bin_gtr, bin_geq, bin_add64, bin_sub64, bin_mul64, pendOk_nil, passed_nil, n_add, n_mul, n_and, bin_and32, bin_shr32, conv_nat, un_not, conv_64, decide_true, decide_false, true_implies, false_implies, forall_const, and_true, true_and, eq_self, ne_eq, ↓reduceIte, implies_true, Int.reduceLT, Int.reduceGT, Int.reduceLE, Int.reduceEq, Int.reduceNeg, and_self, Bool.not_eq_true, end_ret, end_nrm, endK_some, res_nil, res_tmp, res_cell1, res_cellN, resVal_one, resVal_none, resVal_two, Option.map_some, Option.bind_some, opExtract_eq, List.getElem?_cons_zero, List.getElem?_cons_succ, opNil_ptr, fld_ptr, Nat.mul_one, kbb, loadV_box, load1_box, loadN_box, cellsN_some, drop?_zero, drop?_succ, take?_zero, take?_succ, one?_some, store_box, storeC_some, get_eq, get_ne, loadOf_1, loadOf_n, stepL_some, loadK_some, pend_zero, pend_succ, passed_one, passed_more, prevOk_zero, prevOk_nil, prevOk_cons, pendOk_cons, sameLoadK_eq, St.bump_get, bump_getF, St.bump_wm, St.put_wm, St.get_put, Nat.le_add_right, Nat.le_refl, Bool.true_and, Bool.and_true, Bool.and_self, opBuild_eq, opBox_eq, parts_nil, parts_cons, fill_nil, fill_cons, splice_nil, splice_zero, splice_succ, vcells_int, vcells_bool, vcells_ptr, vcells_slice, vcells_map, vcells_agg, one_int, one_bool, one_ptr, one_slice, one_map, List.length_cons, List.length_nil, List.all_cons, List.all_nil, List.append_nil, List.cons_append, List.nil_append, sameK_eq, vsamesF_nil, vsamesF_cons, same_bool, same_int, same_ptr, same_slice, same_map, eq_bool, neq_bool]
    refine ⟨_, stl_bool _ _ _ _ (by omega), ?_⟩
    rw [e0]; simp [h1]
  · have hd1 : decide (a.1 = b.1) = false := decide_eq_false h1
    simp (disch := omega) only [hd1, k_skip, k_seq, k_cond, k_block, k_loop, k_range, k_exit, k_scope, k_ret, k_region, c_nil, c_seq, c_blk, c_lp, e_nil, e_seq, e_blk, e_lp, r_nil, r_seq, r_blk, r_lp, o_nil, o_p, o_pg, o_l, o_a, o_c, o_cg, o_store, o_mapU, o_app, o_copy, o_del, evP, evA, ev_tmp, ev_const, ev_func, evArgs_nil, evArgs_cons, evParts_nil, evParts_cons, evOpt_none, evOpt_some, putO_some, putO_none, restrict_cons, restrict_nil, argFr_cons, argFr_nil, upd_app, Nat.reduceAdd, Nat.reduceEqDiff, Nat.zero_add, Nat.add_zero, bump_zero, St.bump_next, St.put_next, decide_eq_true_eq, condK_bool, stepP_some, stepA_some, stepE_some, stepE_pend, grdK_bool, grdK_undf, opPick_dec, opPick_true, opPick_false, bin_eql, bin_neq, bin_lss, bin_leq, bin_gtr, bin_geq, bin_add64, bin_sub64, bin_mul64, pendOk_nil, passed_nil, n_add, n_mul, n_and, bin_and32, bin_shr32, conv_nat, un_not, conv_64, decide_true, decide_false, true_implies, false_implies, forall_const, and_true, true_and, eq_self, ne_eq, ↓reduceIte, implies_true, Int.reduceLT, Int.reduceGT, Int.reduceLE, Int.reduceEq, Int.reduceNeg, and_self, Bool.not_eq_true, end_ret, end_nrm, endK_some, res_nil, res_tmp, res_cell1, res_cellN, resVal_one, resVal_none, resVal_two, Option.map_some, Option.bind_some, opExtract_eq, List.getElem?_cons_zero, List.getElem?_cons_succ, opNil_ptr, fld_ptr, Nat.mul_one, kbb, loadV_box, load1_box, loadN_box, cellsN_some, drop?_zero, drop?_succ, take?_zero, take?_succ, one?_some, store_box, storeC_some, get_eq, get_ne, loadOf_1, loadOf_n, stepL_some, loadK_some, pend_zero, pend_succ, passed_one, passed_more, prevOk_zero, prevOk_nil, prevOk_cons, pendOk_cons, sameLoadK_eq, St.bump_get, bump_getF, St.bump_wm, St.put_wm, St.get_put, Nat.le_add_right, Nat.le_refl, Bool.true_and, Bool.and_true, Bool.and_self, opBuild_eq, opBox_eq, parts_nil, parts_cons, fill_nil, fill_cons, splice_nil, splice_zero, splice_succ, vcells_int, vcells_bool, vcells_ptr, vcells_slice, vcells_map, vcells_agg, one_int, one_bool, one_ptr, one_slice, one_map, List.length_cons, List.length_nil, List.all_cons, List.all_nil, List.append_nil, List.cons_append, List.nil_append, sameK_eq, vsamesF_nil, vsamesF_cons, same_bool, same_int, same_ptr, same_slice, same_map, eq_bool, neq_bool]
    refine ⟨_, stl_bool _ _ _ _ (by omega), ?_⟩
    rw [e0]; simp [h1]

/-- What 'Tame' makes of a number: of no more than one word each. -/
def tameQ (b : Bool) (xs ys : List Nat) : Rat := Rat.divInt (sg b (val (xs.take 1))) (val (ys.take 1) : Int)

theorem mkRat_le {a : Int} {n : Nat} : (mkRat a n).num.natAbs ≤ a.natAbs ∧ (mkRat a n).den ≤ max n 1 := by
  by_cases h : n = 0
  · subst h; simp
  · refine ⟨?_, ?_⟩
    · rw [mkRat_num h, Int.natAbs_ediv_of_dvd (Int.ofNat_dvd_left.2 (Nat.gcd_dvd_left _ _))]
      exact Nat.div_le_self _ _
    · rw [mkRat_den h]
      exact Nat.le_trans (Nat.div_le_self _ _) (by omega)
theorem val_take1 {xs : List Nat} (h : Wd xs) : val (xs.take 1) < 18446744073709551616 := by
  have := val_lt (h.take 1)
  have h2 : (xs.take 1).length ≤ 1 := by rw [List.length_take]; omega
  refine Nat.lt_of_lt_of_le this ?_
  exact Nat.le_trans (Nat.pow_le_pow_right (by omega) h2) (by omega)
theorem tameQ_sq {b : Bool} {xs ys : List Nat} (hx : Wd xs) (hy : Wd ys) : Sq (tameQ b xs ys) := by
  have h1 := val_take1 hx
  have h2 := val_take1 hy
  unfold tameQ
  rw [Rat.divInt_ofNat]
  have h3 := mkRat_le (a := sg b (val (xs.take 1))) (n := val (ys.take 1))
  have h4 : (sg b (val (xs.take 1))).natAbs = val (xs.take 1) := by unfold sg; split <;> omega
  exact sq_one (by omega) (by omega)
/-- A row of words that a caller hands in, of whatever length. -/
structure RawM (s : St) (v : Value) (xs : List Nat) : Prop where
  row : RowL s 1 v (W xs)
  wd : Wd xs
theorem RawM.later {s s' : St} {v : Value} {xs : List Nat} (h : RawM s v xs) (hl : Later s s') : RawM s' v xs := ⟨h.row.later hl, h.wd⟩
theorem RawM.lenI {s s' : St} {a : Value} {xs : List Nat} (ha : RawM s a xs) (hL : Later s s') : opLen a = some (i64 xs.length) := by
  have := (ha.row s' hL).len
  rwa [W_len] at this
theorem RawM.same {s : St} {v : Value} {xs : List Nat} (h : RawM s v xs) : vsameF 6 v v = true :=
  (h.row.row.sm (d := 0) fun e he c hc => by
    obtain ⟨w, _, rfl⟩ := List.mem_map.1 he
    rcases List.mem_singleton.1 hc with rfl
    exact sm_int _ _) 6 (by omega)
theorem min_len (n : Nat) : opMin [i64 n, .int .i64 1] = some (i64 (min n 1 : Nat)) := by
  simp only [opMin, minI]
  split <;> congr 2 <;> omega

theorem Tame1_ret {s : St} (hf : Fresh s) {b : Bool} {v w : Value} {xs ys : List Nat} (hx : RawM s v xs) (hy : RawM s w ys) (hov : oneCell v = true) (how : oneCell w = true) :
    ∃ V, Ret prog (fv n_l07_Tame_1) [.agg ⟨[.bool b, v, w]⟩] s V s ∧ IsFrac V (tameQ b xs ys) := by
  refine ret_pure p_Tame1 rfl (by simp [c_l07_Tame_1]) fun s0 hs0 => ?_
  have hL : Later s s0 := by subst hs0; exact Later.callee s
  have hf0 : Fresh s0 := by subst hs0; exact hf
  have hnx : s0.next = s.next := by subst hs0; rfl
  have hwm : s0.wm = s0.next := by subst hs0; rfl
  have hx0 := hx.later hL
  have hy0 := hy.later hL
  have hf1 : Fresh (((s0.bump 2).put s0.next (.cells false [.bool b, v, w])).put (s0.next + 1) (.cells false [.bool false, .slice none 0 0, .slice none 0 0])) :=
    ((hf0.bump 2).put (by simp)).put (by simp)
  have hL1 : Later s0 (((s0.bump 2).put s0.next (.cells false [.bool b, v, w])).put (s0.next + 1) (.cells false [.bool false, .slice none 0 0, .slice none 0 0])) :=
    (((Later.refl s0).bump 2).put (by omega)).put (by omega)
  have hf2 : Fresh ((((s0.bump 2).put s0.next (.cells false [.bool b, v, w])).put (s0.next + 1) (.cells false [.bool false, .slice none 0 0, .slice none 0 0])).bump 1) := hf1.bump 1
  have hL2 := hL1.bump 1
  have lv := hx0.lenI (Later.refl s0)
  have lw := hy0.lenI (Later.refl s0)
  have rv := hx0.row.row
  have rw' := hy0.row.row
  have sv := rv.sliceHi (k := .i64) (i := (min xs.length 1 : Nat)) (by omega) (by rw [W_len]; omega)
  have sw := rw'.sliceHi (k := .i64) (i := (min ys.length 1 : Nat)) (by omega) (by rw [W_len]; omega)
  rw [Int.toNat_natCast] at sv sw
  have tk : ∀ {zs : List Nat}, zs.take (min zs.length 1) = zs.take 1 := fun {zs} => by
    rw [Nat.min_comm, ← List.take_take, List.take_of_length_le (Nat.le_refl zs.length)]
  have mv : MagV s0 (sub 1 v 0 (min xs.length 1)) (xs.take 1) := by
    have := hx0.row.sub (l := 0) (m := min xs.length 1) (by omega) (by rw [W_len]; omega)
    rw [List.drop_zero, W_take, tk] at this
    exact ⟨this, hx.wd.take 1, by rw [List.length_take]; omega⟩
  have mw : MagV s0 (sub 1 w 0 (min ys.length 1)) (ys.take 1) := by
    have := hy0.row.sub (l := 0) (m := min ys.length 1) (by omega) (by rw [W_len]; omega)
    rw [List.drop_zero, W_take, tk] at this
    exact ⟨this, hy.wd.take 1, by rw [List.length_take]; omega⟩
  have h1 := val_take1 hx.wd
  have h2 := val_take1 hy.wd
  have l1 : (xs.take 1).length ≤ 1 := by rw [List.length_take]; omega
  have l2 : (ys.take 1).length ≤ 1 := by rw [List.length_take]; omega
  obtain ⟨A, hA1, hA2⟩ := Make_ret hf2 (b := b) (mv.later hL2) (by omega)
  obtain ⟨B, hB1, hB2⟩ := Make_ret hf2 (b := false) (mw.later hL2) (by omega)
  have z1 : (sg b (val (xs.take 1))).natAbs = val (xs.take 1) := by unfold sg; split <;> omega
  have z2 : sg false (val (ys.take 1)) = (val (ys.take 1) : Int) := rfl
  rw [z2] at hB2
  obtain ⟨T, hT1, V, rfl, hV⟩ := fMake_ret hf2 hA2 hB2 (by omega) (by omega)
  have hV' : IsFrac V (tameQ b xs ys) := hV
  simp (disch := omega) only [c_l07_Tame_1, k_skip, k_seq, k_cond, k_block, k_loop, k_range, k_exit, k_scope, k_ret, k_region, c_nil, c_seq, c_blk, c_lp, e_nil, e_seq, e_blk, e_lp, r_nil, r_seq, r_blk, r_lp, o_nil, o_p, o_pg, o_l, o_a, o_c, o_cg, o_store, o_mapU, o_app, o_copy, o_del, evP, evA, ev_tmp, ev_const, ev_func, evArgs_nil, evArgs_cons, evParts_nil, evParts_cons, evOpt_none, evOpt_some, putO_some, putO_none, restrict_cons, restrict_nil, argFr_cons, argFr_nil, upd_app, Nat.reduceAdd, Nat.reduceEqDiff, Nat.zero_add, Nat.add_zero, bump_zero, St.bump_next, St.put_next, decide_eq_true_eq, condK_bool, stepP_some, stepA_some, stepE_some, stepE_pend, grdK_bool, grdK_undf, opPick_dec, opPick_true, opPick_false, bin_eql, bin_neq, bin_lss, bin_leq, bin_gtr, bin_geq, bin_add64, bin_sub64, bin_mul64, pendOk_nil, passed_nil, n_add, n_mul, n_and, bin_and32, bin_shr32, conv_nat, un_not, conv_64, decide_true, decide_false, true_implies, false_implies, forall_const, and_true, true_and, eq_self, ne_eq, ↓reduceIte, implies_true, Int.reduceLT, Int.reduceGT, Int.reduceLE, Int.reduceEq, Int.reduceNeg, and_self, Bool.not_eq_true, end_ret, end_nrm, endK_some, res_nil, res_tmp, res_cell1, res_cellN, resVal_one, resVal_none, resVal_two, Option.map_some, Option.bind_some, opExtract_eq, List.getElem?_cons_zero, List.getElem?_cons_succ, opNil_ptr, fld_ptr, Nat.mul_one, kbb, loadV_box, load1_box, loadN_box, cellsN_some, drop?_zero, drop?_succ, take?_zero, take?_succ, one?_some, store_box, storeC_some, get_eq, get_ne, loadOf_1, loadOf_n, stepL_some, loadK_some, pend_zero, pend_succ, passed_one, passed_more, prevOk_zero, prevOk_nil, prevOk_cons, pendOk_cons, sameLoadK_eq, St.bump_get, bump_getF, St.bump_wm, St.put_wm, St.get_put, Nat.le_add_right, Nat.le_refl, Bool.true_and, Bool.and_true, Bool.and_self, opBuild_eq, opBox_eq, parts_nil, parts_cons, fill_nil, fill_cons, splice_nil, splice_zero, splice_succ, vcells_int, vcells_bool, vcells_ptr, vcells_slice, vcells_map, vcells_agg, one_int, one_bool, one_ptr, one_slice, one_map, List.length_cons, List.length_nil, List.all_cons, List.all_nil, List.append_nil, List.cons_append, List.nil_append, sameK_eq, vsamesF_nil, vsamesF_cons, same_bool, same_int, same_ptr, same_slice, same_map, eq_bool, neq_bool, hov, how, vcells_of hov, vcells_of how, lv, lw, min_len, sv]
  refine callK.ofS hA1 ?_
  simp (disch := omega) only [k_skip, k_seq, k_cond, k_block, k_loop, k_range, k_exit, k_scope, k_ret, k_region, c_nil, c_seq, c_blk, c_lp, e_nil, e_seq, e_blk, e_lp, r_nil, r_seq, r_blk, r_lp, o_nil, o_p, o_pg, o_l, o_a, o_c, o_cg, o_store, o_mapU, o_app, o_copy, o_del, evP, evA, ev_tmp, ev_const, ev_func, evArgs_nil, evArgs_cons, evParts_nil, evParts_cons, evOpt_none, evOpt_some, putO_some, putO_none, restrict_cons, restrict_nil, argFr_cons, argFr_nil, upd_app, Nat.reduceAdd, Nat.reduceEqDiff, Nat.zero_add, Nat.add_zero, bump_zero, St.bump_next, St.put_next, decide_eq_true_eq, condK_bool, stepP_some, stepA_some, stepE_some, stepE_pend, grdK_bool, grdK_undf, opPick_dec, opPick_true, opPick_false, bin_eql, bin_neq, bin_lss, bin_leq, bin_gtr, bin_geq, bin_add64, bin_sub64, bin_mul64, pendOk_nil, passed_nil, n_add, n_mul, n_and, bin_and32, bin_shr32, conv_nat, un_not, conv_64, decide_true, decide_false, true_implies, false_implies, forall_const, and_true, true_and, eq_self, ne_eq, ↓reduceIte, implies_true, Int.reduceLT, Int.reduceGT, Int.reduceLE, Int.reduceEq, Int.reduceNeg, and_self, Bool.not_eq_true, end_ret, end_nrm, endK_some, res_nil, res_tmp, res_cell1, res_cellN, resVal_one, resVal_none, resVal_two, Option.map_some, Option.bind_some, opExtract_eq, List.getElem?_cons_zero, List.getElem?_cons_succ, opNil_ptr, fld_ptr, Nat.mul_one, kbb, loadV_box, load1_box, loadN_box, cellsN_some, drop?_zero, drop?_succ, take?_zero, take?_succ, one?_some, store_box, storeC_some, get_eq, get_ne, loadOf_1, loadOf_n, stepL_some, loadK_some, pend_zero, pend_succ, passed_one, passed_more, prevOk_zero, prevOk_nil, prevOk_cons, pendOk_cons, sameLoadK_eq, St.bump_get, bump_getF, St.bump_wm, St.put_wm, St.get_put, Nat.le_add_right, Nat.le_refl, Bool.true_and, Bool.and_true, Bool.and_self, opBuild_eq, opBox_eq, parts_nil, parts_cons, fill_nil, fill_cons, splice_nil, splice_zero, splice_succ, vcells_int, vcells_bool, vcells_ptr, vcells_slice, vcells_map, vcells_agg, one_int, one_bool, one_ptr, one_slice, one_map, List.length_cons, List.length_nil, List.all_cons, List.all_nil, List.append_nil, List.cons_append, List.nil_append, sameK_eq, vsamesF_nil, vsamesF_cons, same_bool, same_int, same_ptr, same_slice, same_map, eq_bool, neq_bool, lv, lw, min_len, sw, hy0.same]
  refine callK.ofS hB1 ?_
  simp (disch := omega) only [k_skip, k_seq, k_cond, k_block, k_loop, k_range, k_exit, k_scope, k_ret, k_region, c_nil, c_seq, c_blk, c_lp, e_nil, e_seq, e_blk, e_lp, r_nil, r_seq, r_blk, r_lp, o_nil, o_p, o_pg, o_l, o_a, o_c, o_cg, o_store, o_mapU, o_app, o_copy, o_del, evP, evA, ev_tmp, ev_const, ev_func, evArgs_nil, evArgs_cons, evParts_nil, evParts_cons, evOpt_none, evOpt_some, putO_some, putO_none, restrict_cons, restrict_nil, argFr_cons, argFr_nil, upd_app, Nat.reduceAdd, Nat.reduceEqDiff, Nat.zero_add, Nat.add_zero, bump_zero, St.bump_next, St.put_next, decide_eq_true_eq, condK_bool, stepP_some, stepA_some, stepE_some, stepE_pend, grdK_bool, grdK_undf, opPick_dec, opPick_true, opPick_false, bin_eql, bin_neq, bin_lss, bin_leq, bin_gtr, bin_geq, bin_add64, bin_sub64, bin_mul64, pendOk_nil, passed_nil, n_add, n_mul, n_and, bin_and32, bin_shr32, conv_nat, un_not, conv_64, decide_true, decide_false, true_implies, false_implies, forall_const, and_true, true_and, eq_self, ne_eq, ↓reduceIte, implies_true, Int.reduceLT, Int.reduceGT, Int.reduceLE, Int.reduceEq, Int.reduceNeg, and_self, Bool.not_eq_true, end_ret, end_nrm, endK_some, res_nil, res_tmp, res_cell1, res_cellN, resVal_one, resVal_none, resVal_two, Option.map_some, Option.bind_some, opExtract_eq, List.getElem?_cons_zero, List.getElem?_cons_succ, opNil_ptr, fld_ptr, Nat.mul_one, kbb, loadV_box, load1_box, loadN_box, cellsN_some, drop?_zero, drop?_succ, take?_zero, take?_succ, one?_some, store_box, storeC_some, get_eq, get_ne, loadOf_1, loadOf_n, stepL_some, loadK_some, pend_zero, pend_succ, passed_one, passed_more, prevOk_zero, prevOk_nil, prevOk_cons, pendOk_cons, sameLoadK_eq, St.bump_get, bump_getF, St.bump_wm, St.put_wm, St.get_put, Nat.le_add_right, Nat.le_refl, Bool.true_and, Bool.and_true, Bool.and_self, opBuild_eq, opBox_eq, parts_nil, parts_cons, fill_nil, fill_cons, splice_nil, splice_zero, splice_succ, vcells_int, vcells_bool, vcells_ptr, vcells_slice, vcells_map, vcells_agg, one_int, one_bool, one_ptr, one_slice, one_map, List.length_cons, List.length_nil, List.all_cons, List.all_nil, List.append_nil, List.cons_append, List.nil_append, sameK_eq, vsamesF_nil, vsamesF_cons, same_bool, same_int, same_ptr, same_slice, same_map, eq_bool, neq_bool]
  refine callK.ofS hT1 ?_
  obtain ⟨vn, vd, rfl, hn, hd⟩ := hV'.is
  simp (disch := omega) only [k_skip, k_seq, k_cond, k_block, k_loop, k_range, k_exit, k_scope, k_ret, k_region, c_nil, c_seq, c_blk, c_lp, e_nil, e_seq, e_blk, e_lp, r_nil, r_seq, r_blk, r_lp, o_nil, o_p, o_pg, o_l, o_a, o_c, o_cg, o_store, o_mapU, o_app, o_copy, o_del, evP, evA, ev_tmp, ev_const, ev_func, evArgs_nil, evArgs_cons, evParts_nil, evParts_cons, evOpt_none, evOpt_some, putO_some, putO_none, restrict_cons, restrict_nil, argFr_cons, argFr_nil, upd_app, Nat.reduceAdd, Nat.reduceEqDiff, Nat.zero_add, Nat.add_zero, bump_zero, St.bump_next, St.put_next, decide_eq_true_eq, condK_bool, stepP_some, stepA_some, stepE_some, stepE_pend, grdK_bool, grdK_undf, opPick_dec, opPick_true, opPick_false, bin_eql, bin_neq, bin_lss, bin_leq, bin_gtr, bin_geq, bin_add64, bin_sub64, bin_mul64, pendOk_nil, passed_nil, n_add, n_mul, n_and, bin_and32, bin_shr32, conv_nat, un_not, conv_64, decide_true, decide_false, true_implies, false_implies, forall_const, and_true, true_and, eq_self, ne_eq, ↓reduceIte, implies_true, Int.reduceLT, Int.reduceGT, Int.reduceLE, Int.reduceEq, Int.reduceNeg, and_self, Bool.not_eq_true, end_ret, end_nrm, endK_some, res_nil, res_tmp, res_cell1, res_cellN, resVal_one, resVal_none, resVal_two, Option.map_some, Option.bind_some, opExtract_eq, List.getElem?_cons_zero, List.getElem?_cons_succ, opNil_ptr, fld_ptr, Nat.mul_one, kbb, loadV_box, load1_box, loadN_box, cellsN_some, drop?_zero, drop?_succ, take?_zero, take?_succ, one?_some, store_box, storeC_some, get_eq, get_ne, loadOf_1, loadOf_n, stepL_some, loadK_some, pend_zero, pend_succ, passed_one, passed_more, prevOk_zero, prevOk_nil, prevOk_cons, pendOk_cons, sameLoadK_eq, St.bump_get, bump_getF, St.bump_wm, St.put_wm, St.get_put, Nat.le_add_right, Nat.le_refl, Bool.true_and, Bool.and_true, Bool.and_self, opBuild_eq, opBox_eq, parts_nil, parts_cons, fill_nil, fill_cons, splice_nil, splice_zero, splice_succ, vcells_int, vcells_bool, vcells_ptr, vcells_slice, vcells_map, vcells_agg, one_int, one_bool, one_ptr, one_slice, one_map, List.length_cons, List.length_nil, List.all_cons, List.all_nil, List.append_nil, List.cons_append, List.nil_append, sameK_eq, vsamesF_nil, vsamesF_cons, same_bool, same_int, same_ptr, same_slice, same_map, eq_bool, neq_bool, hn.one, hd.one, hwm]
  by_cases h0 : val (ys.take 1) = 0
  · have e0 : (val (ys.take 1) : Int) = 0 := by omega
    have e1 : tameQ b xs ys = 0 := by unfold tameQ; rw [e0]; simp
    simp (disch := omega) only [e0, k_skip, k_seq, k_cond, k_block, k_loop, k_range, k_exit, k_scope, k_ret, k_region, c_nil, c_seq, c_blk, c_lp, e_nil, e_seq, e_blk, e_lp, r_nil, r_seq, r_blk, r_lp, o_nil, o_p, o_pg, o_l, o_a, o_c, o_cg, o_store, o_mapU, o_app, o_copy, o_del, evP, evA, ev_tmp, ev_const, ev_func, evArgs_nil, evArgs_cons, evParts_nil, evParts_cons, evOpt_none, evOpt_some, putO_some, putO_none, restrict_cons, restrict_nil, argFr_cons, argFr_nil, upd_app, Nat.reduceAdd, Nat.reduceEqDiff, Nat.zero_add, Nat.add_zero, bump_zero, St.bump_next, St.put_next, decide_eq_true_eq, condK_bool, stepP_some, stepA_some, stepE_some, stepE_pend, grdK_bool, grdK_undf, opPick_dec, opPick_true, opPick_false, bin_eql, bin_neq, bin_lss, bin_leq, bin_gtr, bin_geq, bin_add64, bin_sub64, bin_mul64, pendOk_nil, passed_nil, n_add, n_mul, n_and, bin_and32, bin_shr32, conv_nat, un_not, conv_64, decide_true, decide_false, true_implies, false_implies, forall_const, and_true, true_and, eq_self, ne_eq, ↓reduceIte, implies_true, Int.reduceLT, Int.reduceGT, Int.reduceLE, Int.reduceEq, Int.reduceNeg, and_self, Bool.not_eq_true, end_ret, end_nrm, endK_some, res_nil, res_tmp, res_cell1, res_cellN, resVal_one, resVal_none, resVal_two, Option.map_some, Option.bind_some, opExtract_eq, List.getElem?_cons_zero, List.getElem?_cons_succ, opNil_ptr, fld_ptr, Nat.mul_one, kbb, loadV_box, load1_box, loadN_box, cellsN_some, drop?_zero, drop?_succ, take?_zero, take?_succ, one?_some, store_box, storeC_some, get_eq, get_ne, loadOf_1, loadOf_n, stepL_some, loadK_some, pend_zero, pend_succ, passed_one, passed_more, prevOk_zero, prevOk_nil, prevOk_cons, pendOk_cons, sameLoadK_eq, St.bump_get, bump_getF, St.bump_wm, St.put_wm, St.get_put, Nat.le_add_right, Nat.le_refl, Bool.true_and, Bool.and_true, Bool.and_self, opBuild_eq, opBox_eq, parts_nil, parts_cons, fill_nil, fill_cons, splice_nil, splice_zero, splice_succ, vcells_int, vcells_bool, vcells_ptr, vcells_slice, vcells_map, vcells_agg, one_int, one_bool, one_ptr, one_slice, one_map, List.length_cons, List.length_nil, List.all_cons, List.all_nil, List.append_nil, List.cons_append, List.nil_append, sameK_eq, vsamesF_nil, vsamesF_cons, same_bool, same_int, same_ptr, same_slice, same_map, eq_bool, neq_bool]
    obtain ⟨U, hU1, hU2⟩ := fOf_ret (s := ((((((s0.bump 2).put s0.next (.cells false [.bool b, v, w])).put (s0.next + 1) (.cells false [.bool false, .slice none 0 0, .slice none 0 0])).bump 1).put (s0.next + 2) (.cells false [.bool false, .slice none 0 0, .slice none 0 0])).put (s0.next + 2) (.cells false [.bool (decide ((tameQ b xs ys).num < 0)), vn, vd])))
      (((hf2.put (by simp)).put (by simp))) (n := 0) (by omega) (by omega)
    have hU3 : IsFrac U (tameQ b xs ys) := by rw [e1]; exact hU2
    refine callK.ofS hU1 ?_
    obtain ⟨un, ud, rfl, hun, hud⟩ := hU2.is
    simp (disch := omega) only [k_skip, k_seq, k_cond, k_block, k_loop, k_range, k_exit, k_scope, k_ret, k_region, c_nil, c_seq, c_blk, c_lp, e_nil, e_seq, e_blk, e_lp, r_nil, r_seq, r_blk, r_lp, o_nil, o_p, o_pg, o_l, o_a, o_c, o_cg, o_store, o_mapU, o_app, o_copy, o_del, evP, evA, ev_tmp, ev_const, ev_func, evArgs_nil, evArgs_cons, evParts_nil, evParts_cons, evOpt_none, evOpt_some, putO_some, putO_none, restrict_cons, restrict_nil, argFr_cons, argFr_nil, upd_app, Nat.reduceAdd, Nat.reduceEqDiff, Nat.zero_add, Nat.add_zero, bump_zero, St.bump_next, St.put_next, decide_eq_true_eq, condK_bool, stepP_some, stepA_some, stepE_some, stepE_pend, grdK_bool, grdK_undf, opPick_dec, opPick_true, opPick_false, bin_eql, bin_neq, bin_lss, bin_leq, bin_gtr, bin_geq, bin_add64, bin_sub64, bin_mul64, pendOk_nil, passed_nil, n_add, n_mul, n_and, bin_and32, bin_shr32, conv_nat, un_not, conv_64, decide_true, decide_false, true_implies, false_implies, forall_const, and_true, true_and, eq_self, ne_eq, ↓reduceIte, implies_true, Int.reduceLT, Int.reduceGT, Int.reduceLE, Int.reduceEq, Int.reduceNeg, and_self, Bool.not_eq_true, end_ret, end_nrm, endK_some, res_nil, res_tmp, res_cell1, res_cellN, resVal_one, resVal_none, resVal_two, Option.map_some, Option.bind_some, opExtract_eq, List.getElem?_cons_zero, List.getElem?_cons_succ, opNil_ptr, fld_ptr, Nat.mul_one, kbb, loadV_box, load1_box, loadN_box, cellsN_some, drop?_zero, drop?_succ, take?_zero, take?_succ, one?_some, store_box, storeC_some, get_eq, get_ne, loadOf_1, loadOf_n, stepL_some, loadK_some, pend_zero, pend_succ, passed_one, passed_more, prevOk_zero, prevOk_nil, prevOk_cons, pendOk_cons, sameLoadK_eq, St.bump_get, bump_getF, St.bump_wm, St.put_wm, St.get_put, Nat.le_add_right, Nat.le_refl, Bool.true_and, Bool.and_true, Bool.and_self, opBuild_eq, opBox_eq, parts_nil, parts_cons, fill_nil, fill_cons, splice_nil, splice_zero, splice_succ, vcells_int, vcells_bool, vcells_ptr, vcells_slice, vcells_map, vcells_agg, one_int, one_bool, one_ptr, one_slice, one_map, List.length_cons, List.length_nil, List.all_cons, List.all_nil, List.append_nil, List.cons_append, List.nil_append, sameK_eq, vsamesF_nil, vsamesF_cons, same_bool, same_int, same_ptr, same_slice, same_map, eq_bool, neq_bool, hun.one, hud.one, hwm]
    exact ⟨_, hU3.stl _ _ _ (by omega), hU3⟩
  · have e0 : ¬ (val (ys.take 1) : Int) = 0 := by omega
    simp (disch := omega) only [e0, k_skip, k_seq, k_cond, k_block, k_loop, k_range, k_exit, k_scope, k_ret, k_region, c_nil, c_seq, c_blk, c_lp, e_nil, e_seq, e_blk, e_lp, r_nil, r_seq, r_blk, r_lp, o_nil, o_p, o_pg, o_l, o_a, o_c, o_cg, o_store, o_mapU, o_app, o_copy, o_del, evP, evA, ev_tmp, ev_const, ev_func, evArgs_nil, evArgs_cons, evParts_nil, evParts_cons, evOpt_none, evOpt_some, putO_some, putO_none, restrict_cons, restrict_nil, argFr_cons, argFr_nil, upd_app, Nat.reduceAdd, Nat.reduceEqDiff, Nat.zero_add, Nat.add_zero, bump_zero, St.bump_next, St.put_next, decide_eq_true_eq, condK_bool, stepP_some, stepA_some, stepE_some, stepE_pend, grdK_bool, grdK_undf, opPick_dec, opPick_true, opPick_false, bin_eql, bin_neq, bin_lss, bin_leq, bin_gtr, bin_geq, bin_add64, bin_sub64, bin_mul64, pendOk_nil, passed_nil, n_add, n_mul, n_and, bin_and32, bin_shr32, conv_nat, un_not, conv_64, decide_true, decide_false, true_implies, false_implies, forall_const, and_true, true_and, eq_self, ne_eq, ↓reduceIte, implies_true, Int.reduceLT, Int.reduceGT, Int.reduceLE, Int.reduceEq, Int.reduceNeg, and_self, Bool.not_eq_true, end_ret, end_nrm, endK_some, res_nil, res_tmp, res_cell1, res_cellN, resVal_one, resVal_none, resVal_two, Option.map_some, Option.bind_some, opExtract_eq, List.getElem?_cons_zero, List.getElem?_cons_succ, opNil_ptr, fld_ptr, Nat.mul_one, kbb, loadV_box, load1_box, loadN_box, cellsN_some, drop?_zero, drop?_succ, take?_zero, take?_succ, one?_some, store_box, storeC_some, get_eq, get_ne, loadOf_1, loadOf_n, stepL_some, loadK_some, pend_zero, pend_succ, passed_one, passed_more, prevOk_zero, prevOk_nil, prevOk_cons, pendOk_cons, sameLoadK_eq, St.bump_get, bump_getF, St.bump_wm, St.put_wm, St.get_put, Nat.le_add_right, Nat.le_refl, Bool.true_and, Bool.and_true, Bool.and_self, opBuild_eq, opBox_eq, parts_nil, parts_cons, fill_nil, fill_cons, splice_nil, splice_zero, splice_succ, vcells_int, vcells_bool, vcells_ptr, vcells_slice, vcells_map, vcells_agg, one_int, one_bool, one_ptr, one_slice, one_map, List.length_cons, List.length_nil, List.all_cons, List.all_nil, List.append_nil, List.cons_append, List.nil_append, sameK_eq, vsamesF_nil, vsamesF_cons, same_bool, same_int, same_ptr, same_slice, same_map, eq_bool, neq_bool, hn.one, hd.one, hwm]
    exact ⟨_, hV'.stl _ _ _ (by omega), hV'⟩
end Go.Iso

namespace Go.Iso
open Go.Ev
variable {prog : Nat → Option CDecl} [A : Arith prog]

/-- A slice of an own block, from its beginning on. -/
structure Own (lo : Nat) (s : St) (z : Nat) (v : Value) (es : List (List Value)) : Prop where
  pos : 0 < z
  each : ∀ e ∈ es, e.length = z
  one : ∀ e ∈ es, ∀ c ∈ e, oneCell c = true
  is : (v = .slice none 0 0 ∧ es = []) ∨
    ∃ b cs, v = .slice (some ⟨b, 0, none⟩) es.length z ∧ s.get b = some (.cells false cs) ∧ es.length * z ≤ cs.length ∧ cs.take (es.length * z) = es.flatten ∧ s.wm ≤ b ∧ lo ≤ b ∧ b < s.next
theorem Own.row {lo : Nat} {s : St} {z : Nat} {v : Value} {es : List (List Value)} (h : Own lo s z v es) : Row s.get z v es :=
  ⟨h.pos, h.each, by
    rcases h.is with h1 | ⟨b, cs, h1, h2, h3, h4, h5⟩
    · exact .inl h1
    · exact .inr (.inl ⟨b, 0, false, cs, h1, h2, by omega, by rw [List.drop_zero, h4]⟩)⟩
theorem Own.nil {lo : Nat} {s : St} {z : Nat} (hz : 0 < z) : Own lo s z (.slice none 0 0) [] := ⟨hz, (fun e he => by cases he), (fun e he => by cases he), .inl ⟨rfl, rfl⟩⟩
theorem Own.keep {lo : Nat} {s s' : St} {z : Nat} {v : Value} {es : List (List Value)} (h : Own lo s z v es) (hg : ∀ i, lo ≤ i → i < s.next → s'.get i = s.get i) (hn : s.next ≤ s'.next) (hw : s'.wm = s.wm) : Own lo s' z v es :=
  ⟨h.pos, h.each, h.one, by
    rcases h.is with h1 | ⟨b, cs, h1, h2, h3, h4, h5, h6, h7⟩
    · exact .inl h1
    · exact .inr ⟨b, cs, h1, by rw [hg b h6 h7]; exact h2, h3, h4, by rw [hw]; exact h5, h6, by omega⟩⟩
theorem Own.far {lo : Nat} {s : St} {z : Nat} {v : Value} {es : List (List Value)} (h : Own lo s z v es) : ∀ a n m, v = .slice (some a) n m → lo ≤ a.block := by
  intro a n m e
  rcases h.is with ⟨rfl, _⟩ | ⟨b, cs, rfl, h2, h3, h4, h5, h6, h7⟩
  · cases e
  · cases e; exact h6
theorem Own.pre {lo : Nat} {s : St} {z : Nat} {v : Value} {es : List (List Value)} (h : Own lo s z v es) {m : Nat} (hm : m ≤ es.length) (h0 : es ≠ [] ∨ m = 0) : Own lo s z (sub z v 0 m) (es.take m) :=
  ⟨h.pos, fun e he => h.each e (List.mem_of_mem_take he), fun e he => h.one e (List.mem_of_mem_take he), by
    rcases h.is with ⟨rfl, rfl⟩ | ⟨b, cs, rfl, h2, h3, h4, h5, h6, h7⟩
    · exact .inl ⟨rfl, by simp⟩
    · have hl : (es.take m).length = m := by rw [List.length_take]; omega
      have hmz : m * z ≤ es.length * z := Nat.mul_le_mul_right _ hm
      refine .inr ⟨b, cs, by rw [hl]; simp [sub, addA], h2, by rw [hl]; omega, ?_, h5, h6, h7⟩
      rw [hl, flatten_take m h.each, ← h4, List.take_take]
      congr 1
      omega⟩

theorem flat_one {z : Nat} {es : List (List Value)} (h : ∀ e ∈ es, ∀ c ∈ e, oneCell c = true) : es.flatten.all oneCell = true := by
  rw [List.all_eq_true]
  intro c hc
  obtain ⟨e, he, hce⟩ := List.mem_flatten.1 hc
  exact h e he c hce

theorem own_append {lo z bytes : Nat} {s : St} {v y : Value} {es es2 : List (List Value)} (hf : Fresh s) (h : Own lo s z v es) (hy : Row s.get z y es2) (h1 : ∀ e ∈ es2, ∀ c ∈ e, oneCell c = true) (h0 : es2 ≠ []) (hlo : lo ≤ s.next) (hwm : s.wm ≤ s.next)
    (hb : 1 ≤ bytes) (hbig : (es.length + es2.length) * bytes ≤ 70368744177664) :
    ∃ v' s', opAppend s z bytes v y = some (v', s') ∧ Own lo s' z v' (es ++ es2) ∧ Fresh s' ∧ s'.wm = s.wm ∧ s.next ≤ s'.next ∧
      (∀ i, i < s.next → (∀ a n m, v = .slice (some a) n m → i ≠ a.block) → s'.get i = s.get i) ∧ (∀ a n m, v' = .slice (some a) n m → s.next ≤ a.block) := by
  have hm : mostBytes = 70368744177664 := by decide
  have hle : es.length + es2.length ≤ (es.length + es2.length) * bytes := Nat.le_mul_of_pos_right _ hb
  have hpos : 0 < es2.length := by
    cases es2 with
    | nil => exact absurd rfl h0
    | cons e r => simp
  have a1 := flat_one (z := z) h1
  have l2 : es2.flatten.length = es2.length * z := flatten_len hy.each
  have ho : ∀ e ∈ es ++ es2, ∀ c ∈ e, oneCell c = true := fun e he => by
    rcases List.mem_append.1 he with he | he
    · exact h.one e he
    · exact h1 e he
  have hea : ∀ e ∈ es ++ es2, e.length = z := fun e he => by
    rcases List.mem_append.1 he with he | he
    · exact h.each e he
    · exact hy.each e he
  simp only [opAppend, hy.src, a1, Bool.not_true, cond_false]
  rcases h.is with ⟨rfl, rfl⟩ | ⟨b, cs, rfl, hg, h3, h4, h5, h6, h7⟩
  · have b1 : Nat.ble (es2.length * bytes) mostBytes = true := Nat.ble_eq_true_of_le (by rw [hm]; simpa using hbig)
    have b2 : Nat.ble es2.length mostBytes = true := Nat.ble_eq_true_of_le (by rw [hm]; simp at hle; simp at hbig; omega)
    have b3 : Nat.beq es2.length 0 = false := by rw [natbeq]; exact decide_eq_false (by omega)
    simp only [b1, b2, b3, Bool.and_self, cond_true, cond_false]
    refine ⟨_, _, rfl, ⟨h.pos, hea, ho, .inr ⟨s.next, es2.flatten, rfl, get_eq _ _ _, by simp [l2], ?_, hwm, hlo, by simp⟩⟩, (hf.bump 1).put (by simp), rfl, by simp, ?_, fun a n m e => by cases e; exact Nat.le_refl _⟩
    · rw [List.nil_append, ← l2, List.take_length]
    · intro i hi _
      rw [get_ne (by omega)]
      rfl
  · have b1 : Nat.ble ((es.length + es2.length) * bytes) mostBytes = true := Nat.ble_eq_true_of_le (by rw [hm]; exact hbig)
    have b2 : Nat.ble (es.length + es2.length) mostBytes = true := Nat.ble_eq_true_of_le (by rw [hm]; omega)
    have b3 : Nat.ble s.wm b = true := Nat.ble_eq_true_of_le h5
    have hld : loadV s.get (.pointer (some ⟨b, 0, none⟩)) (es.length * z) = some es.flatten := by
      rw [loadV_at hg (by omega), List.drop_zero, h4]
    simp only [b1, b2, b3, hg, hld, Bool.and_self, cond_true, Nat.beq_refl]
    refine ⟨_, _, rfl, ⟨h.pos, hea, ho, .inr ⟨s.next, es.flatten ++ es2.flatten, by simp, get_eq _ _ _, ?_, ?_, hwm, hlo, by simp⟩⟩, ((hf.bump 1).put (by simp; omega)).put (by simp), rfl, by simp, ?_, fun a n m e => by cases e; exact Nat.le_refl _⟩
    · rw [List.length_append, List.length_append, l2, flatten_len h.each, Nat.add_mul]; omega
    · rw [List.flatten_append, List.take_of_length_le]
      rw [List.length_append, List.length_append, l2, flatten_len h.each, Nat.add_mul]; omega
    · intro i hi hne
      rw [get_ne (by omega), get_ne (hne _ _ _ rfl)]
      rfl

/-- A slice of one element, in a block of its own. -/
theorem single_row {g : Get} {b z : Nat} {e : List Value} (hz : 0 < z) (hl : e.length = z) (hg : g b = some (.cells false e)) : Row g z (.slice (some ⟨b, 0, none⟩) 1 z) [e] :=
  ⟨hz, (fun x hx => by rw [List.mem_singleton.1 hx]; exact hl), .inr (.inl ⟨b, 0, false, e, rfl, hg, by simp [hl], by simp [← hl]⟩)⟩
end Go.Iso

namespace Go.Iso
open Go.Ev
variable {prog : Nat → Option CDecl} [A : Arith prog]

abbrev P := Rat × Rat
/-- A row of points. -/
structure Pts (es : List (List Value)) (ps : List P) : Prop where
  len : es.length = ps.length
  is : ∀ i, i < ps.length → IsSpot (.agg ⟨es.getD i []⟩) (ps.getD i (0, 0))
  sz : ∀ p ∈ ps, Ss p
theorem Pts.append {es es2 : List (List Value)} {ps ps2 : List P} (h : Pts es ps) (h2 : Pts es2 ps2) : Pts (es ++ es2) (ps ++ ps2) := by
  refine ⟨by simp [h.len, h2.len], fun i hi => ?_, fun p hp => ?_⟩
  · have hl := h.len
    by_cases hlt : i < ps.length
    · have e1 : (es ++ es2).getD i [] = es.getD i [] := by simp only [List.getD, List.getElem?_append_left (show i < es.length by omega)]
      have e2 : (ps ++ ps2).getD i (0, 0) = ps.getD i (0, 0) := by simp only [List.getD, List.getElem?_append_left hlt]
      rw [e1, e2]
      exact h.is i hlt
    · have e1 : (es ++ es2).getD i [] = es2.getD (i - ps.length) [] := by simp only [List.getD, List.getElem?_append_right (show es.length ≤ i by omega), hl]
      have e2 : (ps ++ ps2).getD i (0, 0) = ps2.getD (i - ps.length) (0, 0) := by simp only [List.getD, List.getElem?_append_right (show ps.length ≤ i by omega)]
      rw [e1, e2]
      exact h2.is _ (by simp at hi; omega)
  · rcases List.mem_append.1 hp with hp | hp
    · exact h.sz p hp
    · exact h2.sz p hp
theorem Pts.one {e : List Value} {p : P} (h : IsSpot (.agg ⟨e⟩) p) (hs : Ss p) : Pts [e] [p] :=
  ⟨rfl, (fun i hi => by
    have : i = 0 := by simp at hi; omega
    subst this; exact h), fun q hq => by rw [List.mem_singleton.1 hq]; exact hs⟩
theorem Pts.nil : Pts [] [] := ⟨rfl, (fun i hi => absurd hi (by simp)), fun q hq => by cases hq⟩
theorem Pts.take {es : List (List Value)} {ps : List P} (h : Pts es ps) (m : Nat) : Pts (es.take m) (ps.take m) := by
  refine ⟨by simp [h.len], fun i hi => ?_, fun p hp => h.sz p (List.mem_of_mem_take hp)⟩
  rw [List.length_take] at hi
  have e1 : (es.take m).getD i [] = es.getD i [] := by simp [List.getD, List.getElem?_take, show i < m by omega]
  have e2 : (ps.take m).getD i (0, 0) = ps.getD i (0, 0) := by simp [List.getD, List.getElem?_take, show i < m by omega]
  rw [e1, e2]
  exact h.is i (by omega)
theorem Pts.cells {es : List (List Value)} {ps : List P} (h : Pts es ps) : ∀ e ∈ es, e.length = 6 ∧ ∀ c ∈ e, oneCell c = true ∧ Stl 3 c ∧ Sm 2 c := by
  intro e he
  obtain ⟨i, hi, rfl⟩ := List.getElem_of_mem he
  have := h.is i (by rw [← h.len]; exact hi)
  have e1 : es.getD i [] = es[i] := by simp [List.getD, hi]
  rw [e1] at this
  obtain ⟨n, d, m, x, h1, h2, h3, h4, h5⟩ := this.is
  have h1 : es[i] = [.bool (decide ((ps.getD i (0, 0)).1.num < 0)), n, d, .bool (decide ((ps.getD i (0, 0)).2.num < 0)), m, x] := by
    injection h1 with h1
    injection h1
  rw [h1]
  refine ⟨rfl, fun c hc => ?_⟩
  simp only [List.mem_cons, List.not_mem_nil, or_false] at hc
  rcases hc with rfl | rfl | rfl | rfl | rfl | rfl
  · exact ⟨rfl, (stl_bool _).up (by omega), (sm_bool _).up (by omega)⟩
  · exact ⟨h2.one, h2.stl, h2.sm⟩
  · exact ⟨h3.one, h3.stl, h3.sm⟩
  · exact ⟨rfl, (stl_bool _).up (by omega), (sm_bool _).up (by omega)⟩
  · exact ⟨h4.one, h4.stl, h4.sm⟩
  · exact ⟨h5.one, h5.stl, h5.sm⟩

/-- A point that isn't the one behind comes in. -/
def dedup1 (out : List P) (p : P) : List P := if out.getLast? = some p then out else out ++ [p]
def dedup (l : List P) : List P := l.foldl dedup1 []
/-- A closed line: its first point at its end. -/
def closeL (c : Bool) (out : List P) : List P :=
  if c = true ∧ 1 < out.length then
    (if 1 < (if out.head? = out.getLast? then out.dropLast else out).length then (if out.head? = out.getLast? then out.dropLast else out) ++ out.take 1 else (if out.head? = out.getLast? then out.dropLast else out))
  else out
def thinL (c : Bool) (l : List P) : List P := closeL c (dedup l)

theorem p_Thin : prog n_chain_Thin = some (.fn c_chain_Thin) := A.p_Thin

theorem getLast_at {out : List P} (h : out ≠ []) : out.getLast? = some (out.getD (out.length - 1) (0, 0)) := by
  rw [List.getLast?_eq_getElem?]
  have : out.length - 1 < out.length := by
    have := List.length_pos_iff.2 h
    omega
  simp [List.getD, this]

/-- What the loops carry. -/
structure TInv (s0 : St) (b0 : Nat) (box : List Value) (s : St) (o : Value) (es : List (List Value)) (ps : List P) : Prop where
  fresh : Fresh s
  old : b0 < s.next
  wm : s.wm = b0
  box : s.get b0 = some (.cells false box)
  own : Own (b0 + 1) s 6 o es
  pts : Pts es ps
  low : ∀ i, i < b0 → s.get i = s0.get i

/-- A point comes to the end. -/
theorem tinv_append {s0 : St} {b0 : Nat} {box : List Value} {s : St} {o : Value} {es : List (List Value)} {ps : List P} (h : TInv s0 b0 box s o es ps) {e : List Value} {p : P} (he : IsSpot (.agg ⟨e⟩) p) (hs : Ss p) (hl : es.length ≤ 1000) {base : Nat} (hb : base + 1 = s.next)
    (hg : s.get base = some (.cells false e)) (hb0 : b0 < base) :
    ∃ v' s', opAppend s 6 112 o (.slice (some ⟨base, 0, none⟩) 1 6) = some (v', s') ∧ TInv s0 b0 box s' v' (es ++ [e]) (ps ++ [p]) ∧ s.next ≤ s'.next := by
  have hc := (Pts.one he hs).cells e (by simp)
  have hw := h.wm
  obtain ⟨v', s', h1, h2, h3, h4, h5, h6, _⟩ := own_append (bytes := 112) h.fresh h.own (single_row (by omega) hc.1 hg) (by intro x hx; rw [List.mem_singleton.1 hx]; exact fun c hcc => (hc.2 c hcc).1) (by simp) (by omega) (by omega) (by omega) (by simp; omega)
  refine ⟨v', s', h1, ⟨h3, by omega, by rw [h4, hw], ?_, h2, h.pts.append (Pts.one he hs), fun i hi => ?_⟩, h5⟩
  · rw [h6 b0 h.old ?_]
    · exact h.box
    · intro a n m hv
      have := h.own.far a n m hv
      omega
  · have := h.old
    rw [h6 i (by omega) ?_]
    · exact h.low i hi
    · intro a n m hv
      have := h.own.far a n m hv
      omega

theorem TInv.mid {s0 : St} {b0 : Nat} {box : List Value} {s s' : St} {o : Value} {es : List (List Value)} {ps : List P} (h : TInv s0 b0 box s o es ps) (hf : Fresh s') (hn : s.next ≤ s'.next) (hw : s'.wm = s.wm) (hg : ∀ i, i < s.next → s'.get i = s.get i) : TInv s0 b0 box s' o es ps :=
  ⟨hf, Nat.lt_of_lt_of_le h.old hn, by rw [hw, h.wm], by rw [hg _ h.old, h.box], h.own.keep (fun i _ hi => hg i hi) hn hw, h.pts, fun i hi => by rw [hg i (Nat.lt_trans hi h.old)]; exact h.low i hi⟩

theorem Thin_loop {s0 : St} {b0 : Nat} {box : List Value} {pv : Value} {les : List (List Value)} {lps : List P} (hl : ∀ s, (∃ o es ps, TInv s0 b0 box s o es ps) → Row s.get 6 pv les) (hlp : Pts les lps) (hbig : lps.length ≤ 900) {k : List KItem} {Q : Ex → Fr → St → Prop}
    (hexit : ∀ s o es ps G, TInv s0 b0 box s o es ps → ps = dedup lps → contK prog (upd (upd G 3 o) 1 (.pointer (some ⟨b0, 0, none⟩))) s k Q) :
    ∀ m i s o es ps, i + m = lps.length → TInv s0 b0 box s o es ps → ps = dedup (lps.take i) → ps.length ≤ i →
      loopK prog [1, 3, 8, 9, 10] c_chain_Thin_lp0 (upd (upd (upd (upd (upd (fun _ => unk) 10 (i64 i)) 9 (i64 lps.length)) 8 pv) 3 o) 1 (.pointer (some ⟨b0, 0, none⟩))) s (.blk 0 :: k) Q := by
  intro m
  induction m with
  | zero =>
    intro i s o es ps hi hinv hps hlen
    have hi : i = lps.length := by omega
    subst hi
    have hlt : ¬ (lps.length : Int) < lps.length := by omega
    refine loopK.stepAs c_chain_Thin_lp0.eq_1 ?_
    simp only [hlt, k_skip, k_seq, k_cond, k_block, k_loop, k_range, k_exit, k_scope, k_ret, k_region, c_nil, c_seq, c_blk, c_lp, e_nil, e_seq, e_blk, e_lp, r_nil, r_seq, r_blk, r_lp, o_nil, o_p, o_pg, o_l, o_a, o_c, o_cg, o_store, o_mapU, o_app, o_copy, o_del, evP, evA, ev_tmp, ev_const, ev_func, evArgs_nil, evArgs_cons, evParts_nil, evParts_cons, evOpt_none, evOpt_some, putO_some, putO_none, restrict_cons, restrict_nil, argFr_cons, argFr_nil, upd_app, Nat.reduceAdd, Nat.reduceEqDiff, Nat.zero_add, Nat.add_zero, bump_zero, St.bump_next, St.put_next, decide_eq_true_eq, condK_bool, stepP_some, stepA_some, stepE_some, stepE_pend, grdK_bool, grdK_undf, opPick_dec, opPick_true, opPick_false, bin_eql, bin_neq, bin_lss, bin_leq, bin_gtr, bin_geq, bin_add64, bin_sub64, bin_mul64, pendOk_nil, passed_nil, n_add, n_mul, n_and, bin_and32, bin_shr32, conv_nat, un_not, conv_64, decide_true, decide_false, true_implies, false_implies, forall_const, and_true, true_and, eq_self, ne_eq, ↓reduceIte, implies_true, Int.reduceLT, Int.reduceGT, Int.reduceLE, Int.reduceEq, Int.reduceNeg, and_self, Bool.not_eq_true, end_ret, end_nrm, endK_some, res_nil, res_tmp, res_cell1, res_cellN, resVal_one, resVal_none, resVal_two, Option.map_some, Option.bind_some, opExtract_eq, List.getElem?_cons_zero, List.getElem?_cons_succ, opNil_ptr, fld_ptr, Nat.mul_one, kbb]
    exact hexit s o es ps _ hinv (by rw [hps, List.take_length])
  | succ m ih =>
    intro i s o es ps hi hinv hps hlen
    have hlt : (i : Int) < lps.length := by omega
    have hi1 : (i : Int) + 1 = (i + 1 : Nat) := by omega
    have ht : (i : Int).toNat = i := by omega
    have hr := hl s ⟨o, es, ps, hinv⟩
    have hll := hlp.len
    have hle : (les.length : Int) = lps.length := by omega
    have hwm := hinv.wm
    have hold := hinv.old
    have hp := hlp.is i (by omega)
    have hsz : Ss (lps.getD i (0, 0)) := hlp.sz _ (by
      have : lps.getD i (0, 0) = lps[i]'(by omega) := by simp [List.getD, show i < lps.length by omega]
      rw [this]; exact List.getElem_mem _)
    have hstep : dedup (lps.take (i + 1)) = dedup1 ps (lps.getD i (0, 0)) := by
      have : lps.take (i + 1) = lps.take i ++ [lps.getD i (0, 0)] := by
        rw [List.take_succ_eq_append_getElem (by omega)]
        congr 2
        simp [List.getD, show i < lps.length by omega]
      rw [this, dedup, List.foldl_append]
      show dedup1 (dedup (lps.take i)) _ = _
      rw [← hps]
    generalize lps.getD i (0, 0) = p at *
    obtain ⟨n, d, n2, d2, hE, h1, h2, h3, h4⟩ := hp.is
    have hE : les.getD i [] = [.bool (decide (p.1.num < 0)), n, d, .bool (decide (p.2.num < 0)), n2, d2] := by
      injection hE with hE
      injection hE
    rw [hE] at hp
    have hld := hr.loadN0 (i := i) (by omega)
    rw [hE] at hld
    have hfr1 : Fresh (((s.bump 1).put s.next (.cells false [.bool false, .slice none 0 0, .slice none 0 0, .bool false, .slice none 0 0, .slice none 0 0])).put s.next (.cells false [.bool (decide (p.1.num < 0)), n, d, .bool (decide (p.2.num < 0)), n2, d2])) :=
      ((hinv.fresh.bump 1).put (by simp)).put (by simp)
    have hinv1 : TInv s0 b0 box (((s.bump 1).put s.next (.cells false [.bool false, .slice none 0 0, .slice none 0 0, .bool false, .slice none 0 0, .slice none 0 0])).put s.next (.cells false [.bool (decide (p.1.num < 0)), n, d, .bool (decide (p.2.num < 0)), n2, d2])) o es ps :=
      hinv.mid hfr1 (by simp) rfl (fun j hj => by rw [get_ne (by omega), get_ne (by omega)]; rfl)
    have ho := hinv1.own.row
    have hol := ho.len
    have hel := hinv.pts.len
    have hwle : (s.wm ≤ s.next) = True := eq_true (by omega)
    refine loopK.stepAs c_chain_Thin_lp0.eq_1 ?_
    by_cases h0 : ps = []
    · subst h0
      have hes : es = [] := List.length_eq_zero_iff.1 hel
      have hz : ((es.length : Int) = 0) = True := eq_true (by rw [hes]; rfl)
      have hfr2 := (hfr1.bump 1).put (b := s.next + 1) (o := .cells false [.bool (decide (p.1.num < 0)), n, d, .bool (decide (p.2.num < 0)), n2, d2]) (by simp)
      have hinv2 := hinv1.mid hfr2 (by simp) rfl (fun j hj => by rw [get_ne (by simp at hj; omega)]; rfl)
      obtain ⟨v', s', ha, hinv', hn'⟩ := tinv_append hinv2 hp hsz (by rw [hes]; simp) (base := s.next + 1) (by simp) (get_eq _ _ _) (by omega)
      simp (disch := omega) only [hlt, hr.addr, ht, hld, h1.one, h2.one, h3.one, h4.one, hwle, hol, hz, ha, hi1, opBuildSlice_eq, reps_succ, reps_zero, h1.one, h2.one, h3.one, h4.one, k_skip, k_seq, k_cond, k_block, k_loop, k_range, k_exit, k_scope, k_ret, k_region, c_nil, c_seq, c_blk, c_lp, e_nil, e_seq, e_blk, e_lp, r_nil, r_seq, r_blk, r_lp, o_nil, o_p, o_pg, o_l, o_a, o_c, o_cg, o_store, o_mapU, o_app, o_copy, o_del, evP, evA, ev_tmp, ev_const, ev_func, evArgs_nil, evArgs_cons, evParts_nil, evParts_cons, evOpt_none, evOpt_some, putO_some, putO_none, restrict_cons, restrict_nil, argFr_cons, argFr_nil, upd_app, Nat.reduceAdd, Nat.reduceEqDiff, Nat.zero_add, Nat.add_zero, bump_zero, St.bump_next, St.put_next, decide_eq_true_eq, condK_bool, stepP_some, stepA_some, stepE_some, stepE_pend, grdK_bool, grdK_undf, opPick_dec, opPick_true, opPick_false, bin_eql, bin_neq, bin_lss, bin_leq, bin_gtr, bin_geq, bin_add64, bin_sub64, bin_mul64, pendOk_nil, passed_nil, n_add, n_mul, n_and, bin_and32, bin_shr32, conv_nat, un_not, conv_64, decide_true, decide_false, true_implies, false_implies, forall_const, and_true, true_and, eq_self, ne_eq, ↓reduceIte, implies_true, Int.reduceLT, Int.reduceGT, Int.reduceLE, Int.reduceEq, Int.reduceNeg, and_self, Bool.not_eq_true, end_ret, end_nrm, endK_some, res_nil, res_tmp, res_cell1, res_cellN, resVal_one, resVal_none, resVal_two, Option.map_some, Option.bind_some, opExtract_eq, List.getElem?_cons_zero, List.getElem?_cons_succ, opNil_ptr, fld_ptr, Nat.mul_one, kbb, loadV_box, load1_box, loadN_box, cellsN_some, drop?_zero, drop?_succ, take?_zero, take?_succ, one?_some, store_box, storeC_some, get_eq, get_ne, loadOf_1, loadOf_n, stepL_some, loadK_some, pend_zero, pend_succ, passed_one, passed_more, prevOk_zero, prevOk_nil, prevOk_cons, pendOk_cons, sameLoadK_eq, St.bump_get, bump_getF, St.bump_wm, St.put_wm, St.get_put, Nat.le_add_right, Nat.le_refl, Bool.true_and, Bool.and_true, Bool.and_self, opBuild_eq, opBox_eq, parts_nil, parts_cons, fill_nil, fill_cons, splice_nil, splice_zero, splice_succ, vcells_int, vcells_bool, vcells_ptr, vcells_slice, vcells_map, vcells_agg, one_int, one_bool, one_ptr, one_slice, one_map, List.length_cons, List.length_nil, List.all_cons, List.all_nil, List.append_nil, List.cons_append, List.nil_append, sameK_eq, vsamesF_nil, vsamesF_cons, same_bool, same_int, same_ptr, same_slice, same_map, eq_bool, neq_bool]
      exact ih (i + 1) _ _ _ _ (by omega) hinv' (by rw [hstep]; rfl) (by simp)
    · have hpl := List.length_pos_iff.2 h0
      rw [hel] at hol
      have hz : ((ps.length : Int) = 0) = False := eq_false (by omega)
      have ht1 : ((ps.length : Int) - 1).toNat = ps.length - 1 := by omega
      have hq := hinv.pts.is (ps.length - 1) (by omega)
      have hsq : Ss (ps.getD (ps.length - 1) (0, 0)) := hinv.pts.sz _ (by
        have : ps.getD (ps.length - 1) (0, 0) = ps[ps.length - 1]'(by omega) := by simp [List.getD, show ps.length - 1 < ps.length by omega]
        rw [this]; exact List.getElem_mem _)
      have hld2 := ho.loadN0 (i := es.length - 1) (by omega)
      rw [hel] at hld2
      have hsame := sSame_ret hfr1 hq hp hsq hsz
      simp (disch := omega) only [hlt, hr.addr, ht, hld, hwle, hol, hz, ho.addr, ht1, hld2, h1.one, h2.one, h3.one, h4.one, k_skip, k_seq, k_cond, k_block, k_loop, k_range, k_exit, k_scope, k_ret, k_region, c_nil, c_seq, c_blk, c_lp, e_nil, e_seq, e_blk, e_lp, r_nil, r_seq, r_blk, r_lp, o_nil, o_p, o_pg, o_l, o_a, o_c, o_cg, o_store, o_mapU, o_app, o_copy, o_del, evP, evA, ev_tmp, ev_const, ev_func, evArgs_nil, evArgs_cons, evParts_nil, evParts_cons, evOpt_none, evOpt_some, putO_some, putO_none, restrict_cons, restrict_nil, argFr_cons, argFr_nil, upd_app, Nat.reduceAdd, Nat.reduceEqDiff, Nat.zero_add, Nat.add_zero, bump_zero, St.bump_next, St.put_next, decide_eq_true_eq, condK_bool, stepP_some, stepA_some, stepE_some, stepE_pend, grdK_bool, grdK_undf, opPick_dec, opPick_true, opPick_false, bin_eql, bin_neq, bin_lss, bin_leq, bin_gtr, bin_geq, bin_add64, bin_sub64, bin_mul64, pendOk_nil, passed_nil, n_add, n_mul, n_and, bin_and32, bin_shr32, conv_nat, un_not, conv_64, decide_true, decide_false, true_implies, false_implies, forall_const, and_true, true_and, eq_self, ne_eq, ↓reduceIte, implies_true, Int.reduceLT, Int.reduceGT, Int.reduceLE, Int.reduceEq, Int.reduceNeg, and_self, Bool.not_eq_true, end_ret, end_nrm, endK_some, res_nil, res_tmp, res_cell1, res_cellN, resVal_one, resVal_none, resVal_two, Option.map_some, Option.bind_some, opExtract_eq, List.getElem?_cons_zero, List.getElem?_cons_succ, opNil_ptr, fld_ptr, Nat.mul_one, kbb, loadV_box, load1_box, loadN_box, cellsN_some, drop?_zero, drop?_succ, take?_zero, take?_succ, one?_some, store_box, storeC_some, get_eq, get_ne, loadOf_1, loadOf_n, stepL_some, loadK_some, pend_zero, pend_succ, passed_one, passed_more, prevOk_zero, prevOk_nil, prevOk_cons, pendOk_cons, sameLoadK_eq, St.bump_get, bump_getF, St.bump_wm, St.put_wm, St.get_put, Nat.le_add_right, Nat.le_refl, Bool.true_and, Bool.and_true, Bool.and_self, opBuild_eq, opBox_eq, parts_nil, parts_cons, fill_nil, fill_cons, splice_nil, splice_zero, splice_succ, vcells_int, vcells_bool, vcells_ptr, vcells_slice, vcells_map, vcells_agg, one_int, one_bool, one_ptr, one_slice, one_map, List.length_cons, List.length_nil, List.all_cons, List.all_nil, List.append_nil, List.cons_append, List.nil_append, sameK_eq, vsamesF_nil, vsamesF_cons, same_bool, same_int, same_ptr, same_slice, same_map, eq_bool, neq_bool]
      refine callK.ofS hsame ?_
      by_cases heq : ps.getD (ps.length - 1) (0, 0) = p
      · have hd : decide (ps.getD (ps.length - 1) (0, 0) = p) = true := decide_eq_true heq
        simp (disch := omega) only [hd, hi1, k_skip, k_seq, k_cond, k_block, k_loop, k_range, k_exit, k_scope, k_ret, k_region, c_nil, c_seq, c_blk, c_lp, e_nil, e_seq, e_blk, e_lp, r_nil, r_seq, r_blk, r_lp, o_nil, o_p, o_pg, o_l, o_a, o_c, o_cg, o_store, o_mapU, o_app, o_copy, o_del, evP, evA, ev_tmp, ev_const, ev_func, evArgs_nil, evArgs_cons, evParts_nil, evParts_cons, evOpt_none, evOpt_some, putO_some, putO_none, restrict_cons, restrict_nil, argFr_cons, argFr_nil, upd_app, Nat.reduceAdd, Nat.reduceEqDiff, Nat.zero_add, Nat.add_zero, bump_zero, St.bump_next, St.put_next, decide_eq_true_eq, condK_bool, stepP_some, stepA_some, stepE_some, stepE_pend, grdK_bool, grdK_undf, opPick_dec, opPick_true, opPick_false, bin_eql, bin_neq, bin_lss, bin_leq, bin_gtr, bin_geq, bin_add64, bin_sub64, bin_mul64, pendOk_nil, passed_nil, n_add, n_mul, n_and, bin_and32, bin_shr32, conv_nat, un_not, conv_64, decide_true, decide_false, true_implies, false_implies, forall_const, and_true, true_and, eq_self, ne_eq, ↓reduceIte, implies_true, Int.reduceLT, Int.reduceGT, Int.reduceLE, Int.reduceEq, Int.reduceNeg, and_self, Bool.not_eq_true, end_ret, end_nrm, endK_some, res_nil, res_tmp, res_cell1, res_cellN, resVal_one, resVal_none, resVal_two, Option.map_some, Option.bind_some, opExtract_eq, List.getElem?_cons_zero, List.getElem?_cons_succ, opNil_ptr, fld_ptr, Nat.mul_one, kbb, loadV_box, load1_box, loadN_box, cellsN_some, drop?_zero, drop?_succ, take?_zero, take?_succ, one?_some, store_box, storeC_some, get_eq, get_ne, loadOf_1, loadOf_n, stepL_some, loadK_some, pend_zero, pend_succ, passed_one, passed_more, prevOk_zero, prevOk_nil, prevOk_cons, pendOk_cons, sameLoadK_eq, St.bump_get, bump_getF, St.bump_wm, St.put_wm, St.get_put, Nat.le_add_right, Nat.le_refl, Bool.true_and, Bool.and_true, Bool.and_self, opBuild_eq, opBox_eq, parts_nil, parts_cons, fill_nil, fill_cons, splice_nil, splice_zero, splice_succ, vcells_int, vcells_bool, vcells_ptr, vcells_slice, vcells_map, vcells_agg, one_int, one_bool, one_ptr, one_slice, one_map, List.length_cons, List.length_nil, List.all_cons, List.all_nil, List.append_nil, List.cons_append, List.nil_append, sameK_eq, vsamesF_nil, vsamesF_cons, same_bool, same_int, same_ptr, same_slice, same_map, eq_bool, neq_bool]
        refine ih (i + 1) _ _ _ _ (by omega) hinv1 ?_ (by omega)
        rw [hstep, dedup1, getLast_at h0, heq, if_pos rfl]
      · have hd : decide (ps.getD (ps.length - 1) (0, 0) = p) = false := decide_eq_false heq
        have hfr2 := (hfr1.bump 1).put (b := s.next + 1) (o := .cells false [.bool (decide (p.1.num < 0)), n, d, .bool (decide (p.2.num < 0)), n2, d2]) (by simp)
        have hinv2 := hinv1.mid hfr2 (by simp) rfl (fun j hj => by rw [get_ne (by simp at hj; omega)]; rfl)
        obtain ⟨v', s', ha, hinv', hn'⟩ := tinv_append hinv2 hp hsz (by omega) (base := s.next + 1) (by simp) (get_eq _ _ _) (by omega)
        simp (disch := omega) only [hd, ha, hi1, opBuildSlice_eq, reps_succ, reps_zero, h1.one, h2.one, h3.one, h4.one, k_skip, k_seq, k_cond, k_block, k_loop, k_range, k_exit, k_scope, k_ret, k_region, c_nil, c_seq, c_blk, c_lp, e_nil, e_seq, e_blk, e_lp, r_nil, r_seq, r_blk, r_lp, o_nil, o_p, o_pg, o_l, o_a, o_c, o_cg, o_store, o_mapU, o_app, o_copy, o_del, evP, evA, ev_tmp, ev_const, ev_func, evArgs_nil, evArgs_cons, evParts_nil, evParts_cons, evOpt_none, evOpt_some, putO_some, putO_none, restrict_cons, restrict_nil, argFr_cons, argFr_nil, upd_app, Nat.reduceAdd, Nat.reduceEqDiff, Nat.zero_add, Nat.add_zero, bump_zero, St.bump_next, St.put_next, decide_eq_true_eq, condK_bool, stepP_some, stepA_some, stepE_some, stepE_pend, grdK_bool, grdK_undf, opPick_dec, opPick_true, opPick_false, bin_eql, bin_neq, bin_lss, bin_leq, bin_gtr, bin_geq, bin_add64, bin_sub64, bin_mul64, pendOk_nil, passed_nil, n_add, n_mul, n_and, bin_and32, bin_shr32, conv_nat, un_not, conv_64, decide_true, decide_false, true_implies, false_implies, forall_const, and_true, true_and, eq_self, ne_eq, ↓reduceIte, implies_true, Int.reduceLT, Int.reduceGT, Int.reduceLE, Int.reduceEq, Int.reduceNeg, and_self, Bool.not_eq_true, end_ret, end_nrm, endK_some, res_nil, res_tmp, res_cell1, res_cellN, resVal_one, resVal_none, resVal_two, Option.map_some, Option.bind_some, opExtract_eq, List.getElem?_cons_zero, List.getElem?_cons_succ, opNil_ptr, fld_ptr, Nat.mul_one, kbb, loadV_box, load1_box, loadN_box, cellsN_some, drop?_zero, drop?_succ, take?_zero, take?_succ, one?_some, store_box, storeC_some, get_eq, get_ne, loadOf_1, loadOf_n, stepL_some, loadK_some, pend_zero, pend_succ, passed_one, passed_more, prevOk_zero, prevOk_nil, prevOk_cons, pendOk_cons, sameLoadK_eq, St.bump_get, bump_getF, St.bump_wm, St.put_wm, St.get_put, Nat.le_add_right, Nat.le_refl, Bool.true_and, Bool.and_true, Bool.and_self, opBuild_eq, opBox_eq, parts_nil, parts_cons, fill_nil, fill_cons, splice_nil, splice_zero, splice_succ, vcells_int, vcells_bool, vcells_ptr, vcells_slice, vcells_map, vcells_agg, one_int, one_bool, one_ptr, one_slice, one_map, List.length_cons, List.length_nil, List.all_cons, List.all_nil, List.append_nil, List.cons_append, List.nil_append, sameK_eq, vsamesF_nil, vsamesF_cons, same_bool, same_int, same_ptr, same_slice, same_map, eq_bool, neq_bool]
        refine ih (i + 1) _ _ _ _ (by omega) hinv' ?_ (by simp; omega)
        rw [hstep, dedup1, getLast_at h0, if_neg (by simpa using heq)]
end Go.Iso

namespace Go.Iso
open Go.Ev
variable {prog : Nat → Option CDecl} [A : Arith prog]

/-- A row of points, whatever memory holds. -/
structure PtsIm (v : Value) (ps : List P) : Prop where
  is : ∃ es, Im 6 v es ∧ Pts es ps
  stl : Stl 5 v
  one : oneCell v = true

theorem tinv_settle {s0 : St} {b0 : Nat} {box : List Value} {s : St} {o : Value} {es : List (List Value)} {ps : List P} {base : Nat} (h : TInv s0 b0 box s o es ps) (hb : base ≤ b0) : ∃ v', settle s.get base 8 o = some v' ∧ PtsIm v' ps := by
  obtain ⟨v', h1, ⟨a, n, z, h2, h3, _⟩ | ⟨h2, h3, h4, _⟩⟩ := settle_row (base := base) (d := 3) (f := 8) h.own.row (fun e he c hc => ⟨((h.pts.cells e he).2 c hc).1, ((h.pts.cells e he).2 c hc).2.1⟩) (by omega)
  · exfalso
    have := h.own.far _ _ _ h2
    omega
  · exact ⟨v', h1, ⟨⟨es, h2, h.pts⟩, h3, h4⟩⟩

theorem Thin_end {s0 : St} {base b0 : Nat} {box : List Value} {s : St} {o : Value} {es : List (List Value)} {ps : List P} (h : TInv s0 b0 box s o es ps) (hb : base ≤ b0) (G : Fr) :
    wpK prog c_chain_Thin_r1 (upd G 3 o) s [] (wpEnd [.tmp 2] fun v s' => ∃ v', settle s'.get base 8 v = some v' ∧ PtsIm v' ps) := by
  simp (disch := omega) only [c_chain_Thin_r1, k_skip, k_seq, k_cond, k_block, k_loop, k_range, k_exit, k_scope, k_ret, k_region, c_nil, c_seq, c_blk, c_lp, e_nil, e_seq, e_blk, e_lp, r_nil, r_seq, r_blk, r_lp, o_nil, o_p, o_pg, o_l, o_a, o_c, o_cg, o_store, o_mapU, o_app, o_copy, o_del, evP, evA, ev_tmp, ev_const, ev_func, evArgs_nil, evArgs_cons, evParts_nil, evParts_cons, evOpt_none, evOpt_some, putO_some, putO_none, restrict_cons, restrict_nil, argFr_cons, argFr_nil, upd_app, Nat.reduceAdd, Nat.reduceEqDiff, Nat.zero_add, Nat.add_zero, bump_zero, St.bump_next, St.put_next, decide_eq_true_eq, condK_bool, stepP_some, stepA_some, stepE_some, stepE_pend, grdK_bool, grdK_undf, opPick_dec, opPick_true, opPick_false, bin_eql, bin_neq, bin_lss, bin_leq, bin_gtr, bin_geq, bin_add64, bin_sub64, bin_mul64, pendOk_nil, passed_nil, n_add, n_mul, n_and, bin_and32, bin_shr32, conv_nat, un_not, conv_64, decide_true, decide_false, true_implies, false_implies, forall_const, and_true, true_and, eq_self, ne_eq, ↓reduceIte, implies_true, Int.reduceLT, Int.reduceGT, Int.reduceLE, Int.reduceEq, Int.reduceNeg, and_self, Bool.not_eq_true, end_ret, end_nrm, endK_some, res_nil, res_tmp, res_cell1, res_cellN, resVal_one, resVal_none, resVal_two, Option.map_some, Option.bind_some, opExtract_eq, List.getElem?_cons_zero, List.getElem?_cons_succ, opNil_ptr, fld_ptr, Nat.mul_one, kbb, loadV_box, load1_box, loadN_box, cellsN_some, drop?_zero, drop?_succ, take?_zero, take?_succ, one?_some, store_box, storeC_some, get_eq, get_ne, loadOf_1, loadOf_n, stepL_some, loadK_some, pend_zero, pend_succ, passed_one, passed_more, prevOk_zero, prevOk_nil, prevOk_cons, pendOk_cons, sameLoadK_eq, St.bump_get, bump_getF, St.bump_wm, St.put_wm, St.get_put, Nat.le_add_right, Nat.le_refl, Bool.true_and, Bool.and_true, Bool.and_self, opBuild_eq, opBox_eq, parts_nil, parts_cons, fill_nil, fill_cons, splice_nil, splice_zero, splice_succ, vcells_int, vcells_bool, vcells_ptr, vcells_slice, vcells_map, vcells_agg, one_int, one_bool, one_ptr, one_slice, one_map, List.length_cons, List.length_nil, List.all_cons, List.all_nil, List.append_nil, List.cons_append, List.nil_append, sameK_eq, vsamesF_nil, vsamesF_cons, same_bool, same_int, same_ptr, same_slice, same_map, eq_bool, neq_bool]
  exact tinv_settle h hb

theorem Thin_r0 {s0 : St} {base b0 : Nat} {box : List Value} {s : St} {o : Value} {es : List (List Value)} {ps : List P} (h : TInv s0 b0 box s o es ps) (hb : base ≤ b0) (hbig : ps.length ≤ 950) (G : Fr) :
    wpK prog c_chain_Thin_r0 (upd G 3 o) s [.seq c_chain_Thin_r1] (wpEnd [.tmp 2] fun v s' => ∃ v', settle s'.get base 8 v = some v' ∧ PtsIm v' (if 1 < ps.length then ps ++ ps.take 1 else ps)) := by
  have ho := h.own.row
  have hol := ho.len
  have hel := h.pts.len
  rw [hel] at hol
  have hwm := h.wm
  have hold := h.old
  by_cases h1 : 1 < ps.length
  · have hd : ((ps.length : Int) > 1) = True := eq_true (by omega)
    have ht0 : (0 : Int).toNat = 0 := rfl
    have hp := h.pts.is 0 (by omega)
    have hsz : Ss (ps.getD 0 (0, 0)) := h.pts.sz _ (by
      have : ps.getD 0 (0, 0) = ps[0]'(by omega) := by simp [List.getD, show 0 < ps.length by omega]
      rw [this]; exact List.getElem_mem _)
    have htk : ps.take 1 = [ps.getD 0 (0, 0)] := by
      cases ps with
      | nil => simp at h1
      | cons x r => simp [List.getD]
    have hld := ho.loadN0 (i := 0) (by omega)
    rw [if_pos h1, htk]
    generalize ps.getD 0 (0, 0) = p at *
    obtain ⟨n, d, n2, d2, hE, m1, m2, m3, m4⟩ := hp.is
    have hE : es.getD 0 [] = [.bool (decide (p.1.num < 0)), n, d, .bool (decide (p.2.num < 0)), n2, d2] := by
      injection hE with hE
      injection hE
    rw [hE] at hp hld
    have hfr := (h.fresh.bump 1).put (b := s.next) (o := .cells false [.bool (decide (p.1.num < 0)), n, d, .bool (decide (p.2.num < 0)), n2, d2]) (by simp)
    have hinv2 := h.mid hfr (by simp) rfl (fun j hj => by rw [get_ne (by omega)]; rfl)
    obtain ⟨v', s', ha, hinv', hn'⟩ := tinv_append hinv2 hp hsz (by omega) (base := s.next) (by simp) (get_eq _ _ _) (by omega)
    simp (disch := omega) only [c_chain_Thin_r0, hol, hd, ho.addr, ht0, hld, ha, opBuildSlice_eq, reps_succ, reps_zero, m1.one, m2.one, m3.one, m4.one, k_skip, k_seq, k_cond, k_block, k_loop, k_range, k_exit, k_scope, k_ret, k_region, c_nil, c_seq, c_blk, c_lp, e_nil, e_seq, e_blk, e_lp, r_nil, r_seq, r_blk, r_lp, o_nil, o_p, o_pg, o_l, o_a, o_c, o_cg, o_store, o_mapU, o_app, o_copy, o_del, evP, evA, ev_tmp, ev_const, ev_func, evArgs_nil, evArgs_cons, evParts_nil, evParts_cons, evOpt_none, evOpt_some, putO_some, putO_none, restrict_cons, restrict_nil, argFr_cons, argFr_nil, upd_app, Nat.reduceAdd, Nat.reduceEqDiff, Nat.zero_add, Nat.add_zero, bump_zero, St.bump_next, St.put_next, decide_eq_true_eq, condK_bool, stepP_some, stepA_some, stepE_some, stepE_pend, grdK_bool, grdK_undf, opPick_dec, opPick_true, opPick_false, bin_eql, bin_neq, bin_lss, bin_leq, bin_gtr, bin_geq, bin_add64, bin_sub64, bin_mul64, pendOk_nil, passed_nil, n_add, n_mul, n_and, bin_and32, bin_shr32, conv_nat, un_not, conv_64, decide_true, decide_false, true_implies, false_implies, forall_const, and_true, true_and, eq_self, ne_eq, ↓reduceIte, implies_true, Int.reduceLT, Int.reduceGT, Int.reduceLE, Int.reduceEq, Int.reduceNeg, and_self, Bool.not_eq_true, end_ret, end_nrm, endK_some, res_nil, res_tmp, res_cell1, res_cellN, resVal_one, resVal_none, resVal_two, Option.map_some, Option.bind_some, opExtract_eq, List.getElem?_cons_zero, List.getElem?_cons_succ, opNil_ptr, fld_ptr, Nat.mul_one, kbb, loadV_box, load1_box, loadN_box, cellsN_some, drop?_zero, drop?_succ, take?_zero, take?_succ, one?_some, store_box, storeC_some, get_eq, get_ne, loadOf_1, loadOf_n, stepL_some, loadK_some, pend_zero, pend_succ, passed_one, passed_more, prevOk_zero, prevOk_nil, prevOk_cons, pendOk_cons, sameLoadK_eq, St.bump_get, bump_getF, St.bump_wm, St.put_wm, St.get_put, Nat.le_add_right, Nat.le_refl, Bool.true_and, Bool.and_true, Bool.and_self, opBuild_eq, opBox_eq, parts_nil, parts_cons, fill_nil, fill_cons, splice_nil, splice_zero, splice_succ, vcells_int, vcells_bool, vcells_ptr, vcells_slice, vcells_map, vcells_agg, one_int, one_bool, one_ptr, one_slice, one_map, List.length_cons, List.length_nil, List.all_cons, List.all_nil, List.append_nil, List.cons_append, List.nil_append, sameK_eq, vsamesF_nil, vsamesF_cons, same_bool, same_int, same_ptr, same_slice, same_map, eq_bool, neq_bool]
    exact Thin_end hinv' hb _
  · have hd : ((ps.length : Int) > 1) = False := eq_false (by omega)
    simp (disch := omega) only [c_chain_Thin_r0, hol, hd, k_skip, k_seq, k_cond, k_block, k_loop, k_range, k_exit, k_scope, k_ret, k_region, c_nil, c_seq, c_blk, c_lp, e_nil, e_seq, e_blk, e_lp, r_nil, r_seq, r_blk, r_lp, o_nil, o_p, o_pg, o_l, o_a, o_c, o_cg, o_store, o_mapU, o_app, o_copy, o_del, evP, evA, ev_tmp, ev_const, ev_func, evArgs_nil, evArgs_cons, evParts_nil, evParts_cons, evOpt_none, evOpt_some, putO_some, putO_none, restrict_cons, restrict_nil, argFr_cons, argFr_nil, upd_app, Nat.reduceAdd, Nat.reduceEqDiff, Nat.zero_add, Nat.add_zero, bump_zero, St.bump_next, St.put_next, decide_eq_true_eq, condK_bool, stepP_some, stepA_some, stepE_some, stepE_pend, grdK_bool, grdK_undf, opPick_dec, opPick_true, opPick_false, bin_eql, bin_neq, bin_lss, bin_leq, bin_gtr, bin_geq, bin_add64, bin_sub64, bin_mul64, pendOk_nil, passed_nil, n_add, n_mul, n_and, bin_and32, bin_shr32, conv_nat, un_not, conv_64, decide_true, decide_false, true_implies, false_implies, forall_const, and_true, true_and, eq_self, ne_eq, ↓reduceIte, implies_true, Int.reduceLT, Int.reduceGT, Int.reduceLE, Int.reduceEq, Int.reduceNeg, and_self, Bool.not_eq_true, end_ret, end_nrm, endK_some, res_nil, res_tmp, res_cell1, res_cellN, resVal_one, resVal_none, resVal_two, Option.map_some, Option.bind_some, opExtract_eq, List.getElem?_cons_zero, List.getElem?_cons_succ, opNil_ptr, fld_ptr, Nat.mul_one, kbb, loadV_box, load1_box, loadN_box, cellsN_some, drop?_zero, drop?_succ, take?_zero, take?_succ, one?_some, store_box, storeC_some, get_eq, get_ne, loadOf_1, loadOf_n, stepL_some, loadK_some, pend_zero, pend_succ, passed_one, passed_more, prevOk_zero, prevOk_nil, prevOk_cons, pendOk_cons, sameLoadK_eq, St.bump_get, bump_getF, St.bump_wm, St.put_wm, St.get_put, Nat.le_add_right, Nat.le_refl, Bool.true_and, Bool.and_true, Bool.and_self, opBuild_eq, opBox_eq, parts_nil, parts_cons, fill_nil, fill_cons, splice_nil, splice_zero, splice_succ, vcells_int, vcells_bool, vcells_ptr, vcells_slice, vcells_map, vcells_agg, one_int, one_bool, one_ptr, one_slice, one_map, List.length_cons, List.length_nil, List.all_cons, List.all_nil, List.append_nil, List.cons_append, List.nil_append, sameK_eq, vsamesF_nil, vsamesF_cons, same_bool, same_int, same_ptr, same_slice, same_map, eq_bool, neq_bool]
    rw [if_neg h1]
    exact Thin_end h hb _

theorem dedup_len (l : List P) : (dedup l).length ≤ l.length := by
  have : ∀ (l out : List P), (l.foldl dedup1 out).length ≤ out.length + l.length := by
    intro l
    induction l with
    | nil => intro out; simp
    | cons x r ih =>
      intro out
      have := ih (dedup1 out x)
      have h2 : (dedup1 out x).length ≤ out.length + 1 := by
        unfold dedup1; split <;> simp
      simp only [List.foldl_cons, List.length_cons]
      omega
  have h := this l []
  simp only [List.length_nil, Nat.zero_add] at h
  exact h

theorem Thin_ret {s : St} (hf : Fresh s) {c : Bool} {ev pv : Value} {les : List (List Value)} {lps : List P} (hl : RowL s 6 pv les) (hlp : Pts les lps) (hbig : lps.length ≤ 900) (hev : oneCell ev = true) (hpv : oneCell pv = true) :
    ∃ v, Ret prog (fv n_chain_Thin) [.agg ⟨[.bool c, ev, pv]⟩] s v s ∧ PtsIm v (thinL c lps) := by
  refine ret_pure p_Thin rfl (by simp [c_chain_Thin]) fun s0 hs0 => ?_
  have hL : Later s s0 := by subst hs0; exact Later.callee s
  have hf0 : Fresh s0 := by subst hs0; exact hf
  have hnx : s0.next = s.next := by subst hs0; rfl
  have hwm : s0.wm = s0.next := by subst hs0; rfl
  have hf1 : Fresh ((s0.bump 1).put s0.next (.cells false [.bool c, ev, pv])) := (hf0.bump 1).put (by simp)
  have hL1 : Later s ((s0.bump 1).put s0.next (.cells false [.bool c, ev, pv])) := (hL.bump 1).put (by omega)
  have hr := hl _ hL1
  have hrl := hr.len
  have hll := hlp.len
  rw [hll] at hrl
  have hinv0 : TInv s0 s0.next [.bool c, ev, pv] ((s0.bump 1).put s0.next (.cells false [.bool c, ev, pv])) (.slice none 0 0) [] [] :=
    ⟨hf1, by simp, hwm, get_eq _ _ _, Own.nil (by omega), Pts.nil, fun i hi => by rw [get_ne (by omega)]; rfl⟩
  simp (disch := omega) only [c_chain_Thin, hev, hpv, vcells_of hev, vcells_of hpv, hrl, k_skip, k_seq, k_cond, k_block, k_loop, k_range, k_exit, k_scope, k_ret, k_region, c_nil, c_seq, c_blk, c_lp, e_nil, e_seq, e_blk, e_lp, r_nil, r_seq, r_blk, r_lp, o_nil, o_p, o_pg, o_l, o_a, o_c, o_cg, o_store, o_mapU, o_app, o_copy, o_del, evP, evA, ev_tmp, ev_const, ev_func, evArgs_nil, evArgs_cons, evParts_nil, evParts_cons, evOpt_none, evOpt_some, putO_some, putO_none, restrict_cons, restrict_nil, argFr_cons, argFr_nil, upd_app, Nat.reduceAdd, Nat.reduceEqDiff, Nat.zero_add, Nat.add_zero, bump_zero, St.bump_next, St.put_next, decide_eq_true_eq, condK_bool, stepP_some, stepA_some, stepE_some, stepE_pend, grdK_bool, grdK_undf, opPick_dec, opPick_true, opPick_false, bin_eql, bin_neq, bin_lss, bin_leq, bin_gtr, bin_geq, bin_add64, bin_sub64, bin_mul64, pendOk_nil, passed_nil, n_add, n_mul, n_and, bin_and32, bin_shr32, conv_nat, un_not, conv_64, decide_true, decide_false, true_implies, false_implies, forall_const, and_true, true_and, eq_self, ne_eq, ↓reduceIte, implies_true, Int.reduceLT, Int.reduceGT, Int.reduceLE, Int.reduceEq, Int.reduceNeg, and_self, Bool.not_eq_true, end_ret, end_nrm, endK_some, res_nil, res_tmp, res_cell1, res_cellN, resVal_one, resVal_none, resVal_two, Option.map_some, Option.bind_some, opExtract_eq, List.getElem?_cons_zero, List.getElem?_cons_succ, opNil_ptr, fld_ptr, Nat.mul_one, kbb, loadV_box, load1_box, loadN_box, cellsN_some, drop?_zero, drop?_succ, take?_zero, take?_succ, one?_some, store_box, storeC_some, get_eq, get_ne, loadOf_1, loadOf_n, stepL_some, loadK_some, pend_zero, pend_succ, passed_one, passed_more, prevOk_zero, prevOk_nil, prevOk_cons, pendOk_cons, sameLoadK_eq, St.bump_get, bump_getF, St.bump_wm, St.put_wm, St.get_put, Nat.le_add_right, Nat.le_refl, Bool.true_and, Bool.and_true, Bool.and_self, opBuild_eq, opBox_eq, parts_nil, parts_cons, fill_nil, fill_cons, splice_nil, splice_zero, splice_succ, vcells_int, vcells_bool, vcells_ptr, vcells_slice, vcells_map, vcells_agg, one_int, one_bool, one_ptr, one_slice, one_map, List.length_cons, List.length_nil, List.all_cons, List.all_nil, List.append_nil, List.cons_append, List.nil_append, sameK_eq, vsamesF_nil, vsamesF_cons, same_bool, same_int, same_ptr, same_slice, same_map, eq_bool, neq_bool]
  refine Thin_loop (s0 := s0) (les := les) (lps := lps) (b0 := s0.next) (box := [.bool c, ev, pv]) ?_ hlp hbig ?_ lps.length 0 _ _ _ _ (by omega) hinv0 rfl (by simp)
  · rintro s1 ⟨o, es, ps, hinv⟩
    exact (hl.later hL) _ ⟨Nat.le_of_lt hinv.old, fun i hi => hinv.low i hi⟩
  · intro s1 o es ps G hinv hps
    have ho := hinv.own.row
    have hol := ho.len
    have hel := hinv.pts.len
    rw [hel] at hol
    have hbox := hinv.box
    have hdl := dedup_len lps
    rw [← hps] at hdl
    have hfin : closeL c ps = thinL c lps := by rw [hps]; rfl
    rw [← hfin]
    cases c with
    | false =>
      have hc : closeL false ps = ps := by simp [closeL]
      rw [hc]
      simp (disch := omega) only [hol, hbox, k_skip, k_seq, k_cond, k_block, k_loop, k_range, k_exit, k_scope, k_ret, k_region, c_nil, c_seq, c_blk, c_lp, e_nil, e_seq, e_blk, e_lp, r_nil, r_seq, r_blk, r_lp, o_nil, o_p, o_pg, o_l, o_a, o_c, o_cg, o_store, o_mapU, o_app, o_copy, o_del, evP, evA, ev_tmp, ev_const, ev_func, evArgs_nil, evArgs_cons, evParts_nil, evParts_cons, evOpt_none, evOpt_some, putO_some, putO_none, restrict_cons, restrict_nil, argFr_cons, argFr_nil, upd_app, Nat.reduceAdd, Nat.reduceEqDiff, Nat.zero_add, Nat.add_zero, bump_zero, St.bump_next, St.put_next, decide_eq_true_eq, condK_bool, stepP_some, stepA_some, stepE_some, stepE_pend, grdK_bool, grdK_undf, opPick_dec, opPick_true, opPick_false, bin_eql, bin_neq, bin_lss, bin_leq, bin_gtr, bin_geq, bin_add64, bin_sub64, bin_mul64, pendOk_nil, passed_nil, n_add, n_mul, n_and, bin_and32, bin_shr32, conv_nat, un_not, conv_64, decide_true, decide_false, true_implies, false_implies, forall_const, and_true, true_and, eq_self, ne_eq, ↓reduceIte, implies_true, Int.reduceLT, Int.reduceGT, Int.reduceLE, Int.reduceEq, Int.reduceNeg, and_self, Bool.not_eq_true, end_ret, end_nrm, endK_some, res_nil, res_tmp, res_cell1, res_cellN, resVal_one, resVal_none, resVal_two, Option.map_some, Option.bind_some, opExtract_eq, List.getElem?_cons_zero, List.getElem?_cons_succ, opNil_ptr, fld_ptr, Nat.mul_one, kbb, loadV_box, load1_box, loadN_box, cellsN_some, drop?_zero, drop?_succ, take?_zero, take?_succ, one?_some, store_box, storeC_some, get_eq, get_ne, loadOf_1, loadOf_n, stepL_some, loadK_some, pend_zero, pend_succ, passed_one, passed_more, prevOk_zero, prevOk_nil, prevOk_cons, pendOk_cons, sameLoadK_eq, St.bump_get, bump_getF, St.bump_wm, St.put_wm, St.get_put, Nat.le_add_right, Nat.le_refl, Bool.true_and, Bool.and_true, Bool.and_self, opBuild_eq, opBox_eq, parts_nil, parts_cons, fill_nil, fill_cons, splice_nil, splice_zero, splice_succ, vcells_int, vcells_bool, vcells_ptr, vcells_slice, vcells_map, vcells_agg, one_int, one_bool, one_ptr, one_slice, one_map, List.length_cons, List.length_nil, List.all_cons, List.all_nil, List.append_nil, List.cons_append, List.nil_append, sameK_eq, vsamesF_nil, vsamesF_cons, same_bool, same_int, same_ptr, same_slice, same_map, eq_bool, neq_bool]
      exact Thin_end hinv (by omega) _
    | true =>
      by_cases h1 : 1 < ps.length
      · have hd : ((ps.length : Int) > 1) = True := eq_true (by omega)
        have ht0 : (0 : Int).toNat = 0 := rfl
        have ht1 : ((ps.length : Int) - 1).toNat = ps.length - 1 := by omega
        have hp0 : ps ≠ [] := by rintro rfl; simp at h1
        have hld0 := ho.loadN0 (i := 0) (by omega)
        have hld1 := ho.loadN0 (i := ps.length - 1) (by omega)
        have hq0 := hinv.pts.is 0 (by omega)
        have hq1 := hinv.pts.is (ps.length - 1) (by omega)
        have hs : ∀ i, i < ps.length → Ss (ps.getD i (0, 0)) := fun i hi => hinv.pts.sz _ (by
          have : ps.getD i (0, 0) = ps[i]'(by omega) := by simp [List.getD, hi]
          rw [this]; exact List.getElem_mem _)
        have hsame := sSame_ret hinv.fresh hq0 hq1 (hs _ (by omega)) (hs _ (by omega))
        have hsl := ho.sliceHi (k := .i64) (i := ((ps.length : Int) - 1)) (by omega) (by omega)
        have hhead : ps.head? = some (ps.getD 0 (0, 0)) := by
          cases ps with
          | nil => exact absurd rfl hp0
          | cons x r => rfl
        have hlast := getLast_at hp0
        simp (disch := omega) only [hol, hbox, hd, ho.addr, ht0, ht1, hld0, hld1, k_skip, k_seq, k_cond, k_block, k_loop, k_range, k_exit, k_scope, k_ret, k_region, c_nil, c_seq, c_blk, c_lp, e_nil, e_seq, e_blk, e_lp, r_nil, r_seq, r_blk, r_lp, o_nil, o_p, o_pg, o_l, o_a, o_c, o_cg, o_store, o_mapU, o_app, o_copy, o_del, evP, evA, ev_tmp, ev_const, ev_func, evArgs_nil, evArgs_cons, evParts_nil, evParts_cons, evOpt_none, evOpt_some, putO_some, putO_none, restrict_cons, restrict_nil, argFr_cons, argFr_nil, upd_app, Nat.reduceAdd, Nat.reduceEqDiff, Nat.zero_add, Nat.add_zero, bump_zero, St.bump_next, St.put_next, decide_eq_true_eq, condK_bool, stepP_some, stepA_some, stepE_some, stepE_pend, grdK_bool, grdK_undf, opPick_dec, opPick_true, opPick_false, bin_eql, bin_neq, bin_lss, bin_leq, bin_gtr, bin_geq, bin_add64, bin_sub64, bin_mul64, pendOk_nil, passed_nil, n_add, n_mul, n_and, bin_and32, bin_shr32, conv_nat, un_not, conv_64, decide_true, decide_false, true_implies, false_implies, forall_const, and_true, true_and, eq_self, ne_eq, ↓reduceIte, implies_true, Int.reduceLT, Int.reduceGT, Int.reduceLE, Int.reduceEq, Int.reduceNeg, and_self, Bool.not_eq_true, end_ret, end_nrm, endK_some, res_nil, res_tmp, res_cell1, res_cellN, resVal_one, resVal_none, resVal_two, Option.map_some, Option.bind_some, opExtract_eq, List.getElem?_cons_zero, List.getElem?_cons_succ, opNil_ptr, fld_ptr, Nat.mul_one, kbb, loadV_box, load1_box, loadN_box, cellsN_some, drop?_zero, drop?_succ, take?_zero, take?_succ, one?_some, store_box, storeC_some, get_eq, get_ne, loadOf_1, loadOf_n, stepL_some, loadK_some, pend_zero, pend_succ, passed_one, passed_more, prevOk_zero, prevOk_nil, prevOk_cons, pendOk_cons, sameLoadK_eq, St.bump_get, bump_getF, St.bump_wm, St.put_wm, St.get_put, Nat.le_add_right, Nat.le_refl, Bool.true_and, Bool.and_true, Bool.and_self, opBuild_eq, opBox_eq, parts_nil, parts_cons, fill_nil, fill_cons, splice_nil, splice_zero, splice_succ, vcells_int, vcells_bool, vcells_ptr, vcells_slice, vcells_map, vcells_agg, one_int, one_bool, one_ptr, one_slice, one_map, List.length_cons, List.length_nil, List.all_cons, List.all_nil, List.append_nil, List.cons_append, List.nil_append, sameK_eq, vsamesF_nil, vsamesF_cons, same_bool, same_int, same_ptr, same_slice, same_map, eq_bool, neq_bool]
        refine callK.ofS hsame ?_
        by_cases heq : ps.getD 0 (0, 0) = ps.getD (ps.length - 1) (0, 0)
        · have hdd : decide (ps.getD 0 (0, 0) = ps.getD (ps.length - 1) (0, 0)) = true := decide_eq_true heq
          have hc : closeL true ps = (if 1 < (ps.take (ps.length - 1)).length then ps.take (ps.length - 1) ++ (ps.take (ps.length - 1)).take 1 else ps.take (ps.length - 1)) := by
            rw [closeL, if_pos ⟨rfl, h1⟩, hhead, hlast, heq, if_pos rfl, List.dropLast_eq_take]
            split
            · rename_i h2
              rw [List.take_take, show min 1 (ps.length - 1) = 1 by simp at h2; omega]
            · rfl
          rw [hc]
          have hinv2 : TInv s0 s0.next [.bool true, ev, pv] s1 (sub 6 o 0 (ps.length - 1)) (es.take (ps.length - 1)) (ps.take (ps.length - 1)) :=
            ⟨hinv.fresh, hinv.old, hinv.wm, hinv.box, hinv.own.pre (by omega) (.inl (by rintro rfl; simp at hel; omega)), hinv.pts.take _, hinv.low⟩
          simp (disch := omega) only [hdd, hsl, ht1, k_skip, k_seq, k_cond, k_block, k_loop, k_range, k_exit, k_scope, k_ret, k_region, c_nil, c_seq, c_blk, c_lp, e_nil, e_seq, e_blk, e_lp, r_nil, r_seq, r_blk, r_lp, o_nil, o_p, o_pg, o_l, o_a, o_c, o_cg, o_store, o_mapU, o_app, o_copy, o_del, evP, evA, ev_tmp, ev_const, ev_func, evArgs_nil, evArgs_cons, evParts_nil, evParts_cons, evOpt_none, evOpt_some, putO_some, putO_none, restrict_cons, restrict_nil, argFr_cons, argFr_nil, upd_app, Nat.reduceAdd, Nat.reduceEqDiff, Nat.zero_add, Nat.add_zero, bump_zero, St.bump_next, St.put_next, decide_eq_true_eq, condK_bool, stepP_some, stepA_some, stepE_some, stepE_pend, grdK_bool, grdK_undf, opPick_dec, opPick_true, opPick_false, bin_eql, bin_neq, bin_lss, bin_leq, bin_gtr, bin_geq, bin_add64, bin_sub64, bin_mul64, pendOk_nil, passed_nil, n_add, n_mul, n_and, bin_and32, bin_shr32, conv_nat, un_not, conv_64, decide_true, decide_false, true_implies, false_implies, forall_const, and_true, true_and, eq_self, ne_eq, ↓reduceIte, implies_true, Int.reduceLT, Int.reduceGT, Int.reduceLE, Int.reduceEq, Int.reduceNeg, and_self, Bool.not_eq_true, end_ret, end_nrm, endK_some, res_nil, res_tmp, res_cell1, res_cellN, resVal_one, resVal_none, resVal_two, Option.map_some, Option.bind_some, opExtract_eq, List.getElem?_cons_zero, List.getElem?_cons_succ, opNil_ptr, fld_ptr, Nat.mul_one, kbb, loadV_box, load1_box, loadN_box, cellsN_some, drop?_zero, drop?_succ, take?_zero, take?_succ, one?_some, store_box, storeC_some, get_eq, get_ne, loadOf_1, loadOf_n, stepL_some, loadK_some, pend_zero, pend_succ, passed_one, passed_more, prevOk_zero, prevOk_nil, prevOk_cons, pendOk_cons, sameLoadK_eq, St.bump_get, bump_getF, St.bump_wm, St.put_wm, St.get_put, Nat.le_add_right, Nat.le_refl, Bool.true_and, Bool.and_true, Bool.and_self, opBuild_eq, opBox_eq, parts_nil, parts_cons, fill_nil, fill_cons, splice_nil, splice_zero, splice_succ, vcells_int, vcells_bool, vcells_ptr, vcells_slice, vcells_map, vcells_agg, one_int, one_bool, one_ptr, one_slice, one_map, List.length_cons, List.length_nil, List.all_cons, List.all_nil, List.append_nil, List.cons_append, List.nil_append, sameK_eq, vsamesF_nil, vsamesF_cons, same_bool, same_int, same_ptr, same_slice, same_map, eq_bool, neq_bool]
          exact Thin_r0 hinv2 (by omega) (by simp; omega) _
        · have hdd : decide (ps.getD 0 (0, 0) = ps.getD (ps.length - 1) (0, 0)) = false := decide_eq_false heq
          have hc : closeL true ps = (if 1 < ps.length then ps ++ ps.take 1 else ps) := by
            rw [closeL, if_pos ⟨rfl, h1⟩, hhead, hlast, if_neg (show ¬ some (ps.getD 0 (0, 0)) = some (ps.getD (ps.length - 1) (0, 0)) from fun h => heq (Option.some.inj h))]
          rw [hc]
          simp (disch := omega) only [hdd, k_skip, k_seq, k_cond, k_block, k_loop, k_range, k_exit, k_scope, k_ret, k_region, c_nil, c_seq, c_blk, c_lp, e_nil, e_seq, e_blk, e_lp, r_nil, r_seq, r_blk, r_lp, o_nil, o_p, o_pg, o_l, o_a, o_c, o_cg, o_store, o_mapU, o_app, o_copy, o_del, evP, evA, ev_tmp, ev_const, ev_func, evArgs_nil, evArgs_cons, evParts_nil, evParts_cons, evOpt_none, evOpt_some, putO_some, putO_none, restrict_cons, restrict_nil, argFr_cons, argFr_nil, upd_app, Nat.reduceAdd, Nat.reduceEqDiff, Nat.zero_add, Nat.add_zero, bump_zero, St.bump_next, St.put_next, decide_eq_true_eq, condK_bool, stepP_some, stepA_some, stepE_some, stepE_pend, grdK_bool, grdK_undf, opPick_dec, opPick_true, opPick_false, bin_eql, bin_neq, bin_lss, bin_leq, bin_gtr, bin_geq, bin_add64, bin_sub64, bin_mul64, pendOk_nil, passed_nil, n_add, n_mul, n_and, bin_and32, bin_shr32, conv_nat, un_not, conv_64, decide_true, decide_false, true_implies, false_implies, forall_const, and_true, true_and, eq_self, ne_eq, ↓reduceIte, implies_true, Int.reduceLT, Int.reduceGT, Int.reduceLE, Int.reduceEq, Int.reduceNeg, and_self, Bool.not_eq_true, end_ret, end_nrm, endK_some, res_nil, res_tmp, res_cell1, res_cellN, resVal_one, resVal_none, resVal_two, Option.map_some, Option.bind_some, opExtract_eq, List.getElem?_cons_zero, List.getElem?_cons_succ, opNil_ptr, fld_ptr, Nat.mul_one, kbb, loadV_box, load1_box, loadN_box, cellsN_some, drop?_zero, drop?_succ, take?_zero, take?_succ, one?_some, store_box, storeC_some, get_eq, get_ne, loadOf_1, loadOf_n, stepL_some, loadK_some, pend_zero, pend_succ, passed_one, passed_more, prevOk_zero, prevOk_nil, prevOk_cons, pendOk_cons, sameLoadK_eq, St.bump_get, bump_getF, St.bump_wm, St.put_wm, St.get_put, Nat.le_add_right, Nat.le_refl, Bool.true_and, Bool.and_true, Bool.and_self, opBuild_eq, opBox_eq, parts_nil, parts_cons, fill_nil, fill_cons, splice_nil, splice_zero, splice_succ, vcells_int, vcells_bool, vcells_ptr, vcells_slice, vcells_map, vcells_agg, one_int, one_bool, one_ptr, one_slice, one_map, List.length_cons, List.length_nil, List.all_cons, List.all_nil, List.append_nil, List.cons_append, List.nil_append, sameK_eq, vsamesF_nil, vsamesF_cons, same_bool, same_int, same_ptr, same_slice, same_map, eq_bool, neq_bool]
          exact Thin_r0 hinv (by omega) (by omega) _
      · have hd : ((ps.length : Int) > 1) = False := eq_false (by omega)
        have hc : closeL true ps = ps := by simp [closeL, h1]
        rw [hc]
        simp (disch := omega) only [hol, hbox, hd, k_skip, k_seq, k_cond, k_block, k_loop, k_range, k_exit, k_scope, k_ret, k_region, c_nil, c_seq, c_blk, c_lp, e_nil, e_seq, e_blk, e_lp, r_nil, r_seq, r_blk, r_lp, o_nil, o_p, o_pg, o_l, o_a, o_c, o_cg, o_store, o_mapU, o_app, o_copy, o_del, evP, evA, ev_tmp, ev_const, ev_func, evArgs_nil, evArgs_cons, evParts_nil, evParts_cons, evOpt_none, evOpt_some, putO_some, putO_none, restrict_cons, restrict_nil, argFr_cons, argFr_nil, upd_app, Nat.reduceAdd, Nat.reduceEqDiff, Nat.zero_add, Nat.add_zero, bump_zero, St.bump_next, St.put_next, decide_eq_true_eq, condK_bool, stepP_some, stepA_some, stepE_some, stepE_pend, grdK_bool, grdK_undf, opPick_dec, opPick_true, opPick_false, bin_eql, bin_neq, bin_lss, bin_leq, bin_gtr, bin_geq, bin_add64, bin_sub64, bin_mul64, pendOk_nil, passed_nil, n_add, n_mul, n_and, bin_and32, bin_shr32, conv_nat, un_not, conv_64, decide_true, decide_false, true_implies, false_implies, forall_const, and_true, true_and, eq_self, ne_eq, ↓reduceIte, implies_true, Int.reduceLT, Int.reduceGT, Int.reduceLE, Int.reduceEq, Int.reduceNeg, and_self, Bool.not_eq_true, end_ret, end_nrm, endK_some, res_nil, res_tmp, res_cell1, res_cellN, resVal_one, resVal_none, resVal_two, Option.map_some, Option.bind_some, opExtract_eq, List.getElem?_cons_zero, List.getElem?_cons_succ, opNil_ptr, fld_ptr, Nat.mul_one, kbb, loadV_box, load1_box, loadN_box, cellsN_some, drop?_zero, drop?_succ, take?_zero, take?_succ, one?_some, store_box, storeC_some, get_eq, get_ne, loadOf_1, loadOf_n, stepL_some, loadK_some, pend_zero, pend_succ, passed_one, passed_more, prevOk_zero, prevOk_nil, prevOk_cons, pendOk_cons, sameLoadK_eq, St.bump_get, bump_getF, St.bump_wm, St.put_wm, St.get_put, Nat.le_add_right, Nat.le_refl, Bool.true_and, Bool.and_true, Bool.and_self, opBuild_eq, opBox_eq, parts_nil, parts_cons, fill_nil, fill_cons, splice_nil, splice_zero, splice_succ, vcells_int, vcells_bool, vcells_ptr, vcells_slice, vcells_map, vcells_agg, one_int, one_bool, one_ptr, one_slice, one_map, List.length_cons, List.length_nil, List.all_cons, List.all_nil, List.append_nil, List.cons_append, List.nil_append, sameK_eq, vsamesF_nil, vsamesF_cons, same_bool, same_int, same_ptr, same_slice, same_map, eq_bool, neq_bool]
        exact Thin_end hinv (by omega) _
end Go.Iso

namespace Go.Iso
open Go.Ev
variable {prog : Nat → Option CDecl} [A : Arith prog]

/-- A point as a caller hands it in. -/
structure RawS (s : St) (e : List Value) (p : P) : Prop where
  is : ∃ b1 v1 w1 b2 v2 w2 x1 y1 x2 y2, e = [.bool b1, v1, w1, .bool b2, v2, w2] ∧ RawM s v1 x1 ∧ RawM s w1 y1 ∧ RawM s v2 x2 ∧ RawM s w2 y2 ∧ p = (tameQ b1 x1 y1, tameQ b2 x2 y2)
  one : ∀ c ∈ e, oneCell c = true
theorem RawS.later {s s' : St} {e : List Value} {p : P} (h : RawS s e p) (hl : Later s s') : RawS s' e p := by
  obtain ⟨b1, v1, w1, b2, v2, w2, x1, y1, x2, y2, h1, h2, h3, h4, h5, h6⟩ := h.is
  exact ⟨⟨b1, v1, w1, b2, v2, w2, x1, y1, x2, y2, h1, h2.later hl, h3.later hl, h4.later hl, h5.later hl, h6⟩, h.one⟩
theorem RawS.sz {s : St} {e : List Value} {p : P} (h : RawS s e p) : Ss p := by
  obtain ⟨b1, v1, w1, b2, v2, w2, x1, y1, x2, y2, h1, h2, h3, h4, h5, rfl⟩ := h.is
  exact ⟨tameQ_sq h2.wd h3.wd, tameQ_sq h4.wd h5.wd⟩

theorem Tame_ret {s : St} (hf : Fresh s) {e : List Value} {p : P} (h : RawS s e p) : ∃ V, Ret prog (fv n_l07_Tame) [.agg ⟨e⟩] s V s ∧ IsSpot V p := by
  have hone := h.one
  obtain ⟨b1, v1, w1, b2, v2, w2, x1, y1, x2, y2, rfl, h2, h3, h4, h5, rfl⟩ := h.is
  refine ret_pure p_Tame rfl (by simp [c_l07_Tame]) fun s0 hs0 => ?_
  have hL : Later s s0 := by subst hs0; exact Later.callee s
  have hf0 : Fresh s0 := by subst hs0; exact hf
  have hnx : s0.next = s.next := by subst hs0; rfl
  have hwm : s0.wm = s0.next := by subst hs0; rfl
  have o1 := hone v1 (by simp)
  have o2 := hone w1 (by simp)
  have o3 := hone v2 (by simp)
  have o4 := hone w2 (by simp)
  have hf1 : Fresh (((s0.bump 2).put s0.next (.cells false [.bool b1, v1, w1, .bool b2, v2, w2])).put (s0.next + 1) (.cells false [.bool false, .slice none 0 0, .slice none 0 0, .bool false, .slice none 0 0, .slice none 0 0])) :=
    ((hf0.bump 2).put (by simp)).put (by simp)
  have hL1 : Later s (((s0.bump 2).put s0.next (.cells false [.bool b1, v1, w1, .bool b2, v2, w2])).put (s0.next + 1) (.cells false [.bool false, .slice none 0 0, .slice none 0 0, .bool false, .slice none 0 0, .slice none 0 0])) :=
    ((hL.bump 2).put (by omega)).put (by omega)
  obtain ⟨A, hA1, hA2⟩ := Tame1_ret hf1 (b := b1) (h2.later hL1) (h3.later hL1) o1 o2
  obtain ⟨B, hB1, hB2⟩ := Tame1_ret hf1 (b := b2) (h4.later hL1) (h5.later hL1) o3 o4
  obtain ⟨n, d, rfl, hn, hd⟩ := hA2.is
  obtain ⟨m, e, rfl, hm, he⟩ := hB2.is
  simp (disch := omega) only [c_l07_Tame, o1, o2, o3, o4, vcells_of o1, vcells_of o2, vcells_of o3, vcells_of o4, k_skip, k_seq, k_cond, k_block, k_loop, k_range, k_exit, k_scope, k_ret, k_region, c_nil, c_seq, c_blk, c_lp, e_nil, e_seq, e_blk, e_lp, r_nil, r_seq, r_blk, r_lp, o_nil, o_p, o_pg, o_l, o_a, o_c, o_cg, o_store, o_mapU, o_app, o_copy, o_del, evP, evA, ev_tmp, ev_const, ev_func, evArgs_nil, evArgs_cons, evParts_nil, evParts_cons, evOpt_none, evOpt_some, putO_some, putO_none, restrict_cons, restrict_nil, argFr_cons, argFr_nil, upd_app, Nat.reduceAdd, Nat.reduceEqDiff, Nat.zero_add, Nat.add_zero, bump_zero, St.bump_next, St.put_next, decide_eq_true_eq, condK_bool, stepP_some, stepA_some, stepE_some, stepE_pend, grdK_bool, grdK_undf, opPick_dec, opPick_true, opPick_false, bin_eql, bin_neq, bin_lss, bin_leq, bin_gtr, bin_geq, bin_add64, bin_sub64, bin_mul64, pendOk_nil, passed_nil, n_add, n_mul, n_and, bin_and32, bin_shr32, conv_nat, un_not, conv_64, decide_true, decide_false, true_implies, false_implies, forall_const, and_true, true_and, eq_self, ne_eq, ↓reduceIte, implies_true, Int.reduceLT, Int.reduceGT, Int.reduceLE, Int.reduceEq, Int.reduceNeg, and_self, Bool.not_eq_true, end_ret, end_nrm, endK_some, res_nil, res_tmp, res_cell1, res_cellN, resVal_one, resVal_none, resVal_two, Option.map_some, Option.bind_some, opExtract_eq, List.getElem?_cons_zero, List.getElem?_cons_succ, opNil_ptr, fld_ptr, Nat.mul_one, kbb, loadV_box, load1_box, loadN_box, cellsN_some, drop?_zero, drop?_succ, take?_zero, take?_succ, one?_some, store_box, storeC_some, get_eq, get_ne, loadOf_1, loadOf_n, stepL_some, loadK_some, pend_zero, pend_succ, passed_one, passed_more, prevOk_zero, prevOk_nil, prevOk_cons, pendOk_cons, sameLoadK_eq, St.bump_get, bump_getF, St.bump_wm, St.put_wm, St.get_put, Nat.le_add_right, Nat.le_refl, Bool.true_and, Bool.and_true, Bool.and_self, opBuild_eq, opBox_eq, parts_nil, parts_cons, fill_nil, fill_cons, splice_nil, splice_zero, splice_succ, vcells_int, vcells_bool, vcells_ptr, vcells_slice, vcells_map, vcells_agg, one_int, one_bool, one_ptr, one_slice, one_map, List.length_cons, List.length_nil, List.all_cons, List.all_nil, List.append_nil, List.cons_append, List.nil_append, sameK_eq, vsamesF_nil, vsamesF_cons, same_bool, same_int, same_ptr, same_slice, same_map, eq_bool, neq_bool]
  refine callK.ofS hA1 ?_
  simp (disch := omega) only [(h4.later hL1).same, (h5.later hL1).same, o1, o2, o3, o4, k_skip, k_seq, k_cond, k_block, k_loop, k_range, k_exit, k_scope, k_ret, k_region, c_nil, c_seq, c_blk, c_lp, e_nil, e_seq, e_blk, e_lp, r_nil, r_seq, r_blk, r_lp, o_nil, o_p, o_pg, o_l, o_a, o_c, o_cg, o_store, o_mapU, o_app, o_copy, o_del, evP, evA, ev_tmp, ev_const, ev_func, evArgs_nil, evArgs_cons, evParts_nil, evParts_cons, evOpt_none, evOpt_some, putO_some, putO_none, restrict_cons, restrict_nil, argFr_cons, argFr_nil, upd_app, Nat.reduceAdd, Nat.reduceEqDiff, Nat.zero_add, Nat.add_zero, bump_zero, St.bump_next, St.put_next, decide_eq_true_eq, condK_bool, stepP_some, stepA_some, stepE_some, stepE_pend, grdK_bool, grdK_undf, opPick_dec, opPick_true, opPick_false, bin_eql, bin_neq, bin_lss, bin_leq, bin_gtr, bin_geq, bin_add64, bin_sub64, bin_mul64, pendOk_nil, passed_nil, n_add, n_mul, n_and, bin_and32, bin_shr32, conv_nat, un_not, conv_64, decide_true, decide_false, true_implies, false_implies, forall_const, and_true, true_and, eq_self, ne_eq, ↓reduceIte, implies_true, Int.reduceLT, Int.reduceGT, Int.reduceLE, Int.reduceEq, Int.reduceNeg, and_self, Bool.not_eq_true, end_ret, end_nrm, endK_some, res_nil, res_tmp, res_cell1, res_cellN, resVal_one, resVal_none, resVal_two, Option.map_some, Option.bind_some, opExtract_eq, List.getElem?_cons_zero, List.getElem?_cons_succ, opNil_ptr, fld_ptr, Nat.mul_one, kbb, loadV_box, load1_box, loadN_box, cellsN_some, drop?_zero, drop?_succ, take?_zero, take?_succ, one?_some, store_box, storeC_some, get_eq, get_ne, loadOf_1, loadOf_n, stepL_some, loadK_some, pend_zero, pend_succ, passed_one, passed_more, prevOk_zero, prevOk_nil, prevOk_cons, pendOk_cons, sameLoadK_eq, St.bump_get, bump_getF, St.bump_wm, St.put_wm, St.get_put, Nat.le_add_right, Nat.le_refl, Bool.true_and, Bool.and_true, Bool.and_self, opBuild_eq, opBox_eq, parts_nil, parts_cons, fill_nil, fill_cons, splice_nil, splice_zero, splice_succ, vcells_int, vcells_bool, vcells_ptr, vcells_slice, vcells_map, vcells_agg, one_int, one_bool, one_ptr, one_slice, one_map, List.length_cons, List.length_nil, List.all_cons, List.all_nil, List.append_nil, List.cons_append, List.nil_append, sameK_eq, vsamesF_nil, vsamesF_cons, same_bool, same_int, same_ptr, same_slice, same_map, eq_bool, neq_bool]
  refine callK.ofS hB1 ?_
  simp (disch := omega) only [hn.one, hd.one, hm.one, he.one, hwm, k_skip, k_seq, k_cond, k_block, k_loop, k_range, k_exit, k_scope, k_ret, k_region, c_nil, c_seq, c_blk, c_lp, e_nil, e_seq, e_blk, e_lp, r_nil, r_seq, r_blk, r_lp, o_nil, o_p, o_pg, o_l, o_a, o_c, o_cg, o_store, o_mapU, o_app, o_copy, o_del, evP, evA, ev_tmp, ev_const, ev_func, evArgs_nil, evArgs_cons, evParts_nil, evParts_cons, evOpt_none, evOpt_some, putO_some, putO_none, restrict_cons, restrict_nil, argFr_cons, argFr_nil, upd_app, Nat.reduceAdd, Nat.reduceEqDiff, Nat.zero_add, Nat.add_zero, bump_zero, St.bump_next, St.put_next, decide_eq_true_eq, condK_bool, stepP_some, stepA_some, stepE_some, stepE_pend, grdK_bool, grdK_undf, opPick_dec, opPick_true, opPick_false, bin_eql, bin_neq, bin_lss, bin_leq, bin_gtr, bin_geq, bin_add64, bin_sub64, bin_mul64, pendOk_nil, passed_nil, n_add, n_mul, n_and, bin_and32, bin_shr32, conv_nat, un_not, conv_64, decide_true, decide_false, true_implies, false_implies, forall_const, and_true, true_and, eq_self, ne_eq, ↓reduceIte, implies_true, Int.reduceLT, Int.reduceGT, Int.reduceLE, Int.reduceEq, Int.reduceNeg, and_self, Bool.not_eq_true, end_ret, end_nrm, endK_some, res_nil, res_tmp, res_cell1, res_cellN, resVal_one, resVal_none, resVal_two, Option.map_some, Option.bind_some, opExtract_eq, List.getElem?_cons_zero, List.getElem?_cons_succ, opNil_ptr, fld_ptr, Nat.mul_one, kbb, loadV_box, load1_box, loadN_box, cellsN_some, drop?_zero, drop?_succ, take?_zero, take?_succ, one?_some, store_box, storeC_some, get_eq, get_ne, loadOf_1, loadOf_n, stepL_some, loadK_some, pend_zero, pend_succ, passed_one, passed_more, prevOk_zero, prevOk_nil, prevOk_cons, pendOk_cons, sameLoadK_eq, St.bump_get, bump_getF, St.bump_wm, St.put_wm, St.get_put, Nat.le_add_right, Nat.le_refl, Bool.true_and, Bool.and_true, Bool.and_self, opBuild_eq, opBox_eq, parts_nil, parts_cons, fill_nil, fill_cons, splice_nil, splice_zero, splice_succ, vcells_int, vcells_bool, vcells_ptr, vcells_slice, vcells_map, vcells_agg, one_int, one_bool, one_ptr, one_slice, one_map, List.length_cons, List.length_nil, List.all_cons, List.all_nil, List.append_nil, List.cons_append, List.nil_append, sameK_eq, vsamesF_nil, vsamesF_cons, same_bool, same_int, same_ptr, same_slice, same_map, eq_bool, neq_bool]
  have hV : IsSpot (.agg ⟨[.bool (decide ((tameQ b1 x1 y1).num < 0)), n, d, .bool (decide ((tameQ b2 x2 y2).num < 0)), m, e]⟩) (tameQ b1 x1 y1, tameQ b2 x2 y2) := ⟨n, d, m, e, rfl, hn, hd, hm, he⟩
  exact ⟨_, hV.stl _ _ _ (by omega), hV⟩
end Go.Iso

namespace Go.Iso
open Go.Ev
variable {prog : Nat → Option CDecl} [A : Arith prog]

def Apart (v w : Value) : Prop := ∀ a n m a' n' m', v = .slice (some a) n m → w = .slice (some a') n' m' → a.block ≠ a'.block
theorem Own.oneV {lo : Nat} {s : St} {z : Nat} {v : Value} {es : List (List Value)} (h : Own lo s z v es) : oneCell v = true := by
  rcases h.is with ⟨rfl, _⟩ | ⟨b, cs, rfl, _⟩ <;> rfl
theorem Own.before {lo : Nat} {s : St} {z : Nat} {v : Value} {es : List (List Value)} (h : Own lo s z v es) : ∀ a n m, v = .slice (some a) n m → a.block < s.next := by
  intro a n m e
  rcases h.is with ⟨rfl, _⟩ | ⟨b, cs, rfl, h2, h3, h4, h5, h6, h7⟩
  · cases e
  · cases e; exact h7
theorem Own.block {lo : Nat} {s s' : St} {z : Nat} {v : Value} {es : List (List Value)} (h : Own lo s z v es) (hg : ∀ b, (∀ a n m, v = .slice (some a) n m → b = a.block → True) → lo ≤ b → b < s.next → (∃ a n m, v = .slice (some a) n m ∧ a.block = b) → s'.get b = s.get b) (hn : s.next ≤ s'.next) (hw : s'.wm = s.wm) : Own lo s' z v es :=
  ⟨h.pos, h.each, h.one, by
    rcases h.is with h1 | ⟨b, cs, h1, h2, h3, h4, h5, h6, h7⟩
    · exact .inl h1
    · exact .inr ⟨b, cs, h1, by rw [hg b (fun _ _ _ _ _ => trivial) h6 h7 ⟨_, _, _, h1, rfl⟩]; exact h2, h3, h4, by rw [hw]; exact h5, h6, by omega⟩⟩

structure LInv (s0 : St) (b0 : Nat) (c : Bool) (s : St) (ev pv o : Value) (ees pes es : List (List Value)) (pl ws : List P) : Prop where
  fresh : Fresh s
  old : b0 < s.next
  wm : s.wm = b0
  box : s.get b0 = some (.cells false [.bool c, ev, pv])
  ownE : Own (b0 + 1) s 2 ev ees
  ownP : Own (b0 + 1) s 6 pv pes
  ptsP : Pts pes pl
  ownO : Own (b0 + 1) s 6 o es
  ptsO : Pts es ws
  ap1 : Apart ev pv
  ap2 : Apart ev o
  ap3 : Apart pv o
  low : ∀ i, i < b0 → s.get i = s0.get i

section
variable {s0 s s' : St} {b0 : Nat} {c : Bool} {ev pv o : Value} {ees pes es : List (List Value)} {pl ws : List P}
theorem LInv.mid (h : LInv s0 b0 c s ev pv o ees pes es pl ws) (hf : Fresh s') (hn : s.next ≤ s'.next) (hw : s'.wm = s.wm) (hg : ∀ i, i < s.next → s'.get i = s.get i) : LInv s0 b0 c s' ev pv o ees pes es pl ws :=
  ⟨hf, Nat.lt_of_lt_of_le h.old hn, by rw [hw, h.wm], by rw [hg _ h.old, h.box], h.ownE.keep (fun i _ hi => hg i hi) hn hw, h.ownP.keep (fun i _ hi => hg i hi) hn hw, h.ptsP, h.ownO.keep (fun i _ hi => hg i hi) hn hw, h.ptsO, h.ap1, h.ap2, h.ap3,
    fun i hi => by rw [hg i (Nat.lt_trans hi h.old)]; exact h.low i hi⟩

/-- A new slice in the place of one of three. -/
theorem fresh_apart {lo z : Nat} {v w : Value} {n : Nat} {es : List (List Value)} (hv : ∀ a k m, v = .slice (some a) k m → n ≤ a.block) (hw : Own lo s z w es) (hn : s.next ≤ n) : Apart v w := by
  intro a k m a' k' m' e1 e2
  have h1 := hv a k m e1
  have h2 := hw.before a' k' m' e2
  omega
theorem Apart.symm {v w : Value} (h : Apart v w) : Apart w v := fun a n m a' n' m' e1 e2 e3 => h a' n' m' a n m e2 e1 e3.symm

/-- A point comes to the line's points. -/
theorem LInv.appP (h : LInv s0 b0 c s ev pv o ees pes es pl ws) {e : List Value} {p : P} (he : IsSpot (.agg ⟨e⟩) p) (hs : Ss p) (hl : pl.length ≤ 1000) {base : Nat} (hb : base + 1 = s.next) (hg : s.get base = some (.cells false e)) (hb0 : b0 < base) :
    ∃ v' s', opAppend s 6 112 pv (.slice (some ⟨base, 0, none⟩) 1 6) = some (v', s') ∧ oneCell v' = true ∧ s'.wm = b0 ∧ s'.get b0 = some (.cells false [.bool c, ev, pv]) ∧ s.next ≤ s'.next ∧
      (∀ i, b0 < i → i < s.next → (∃ cs, s.get i = some cs) → (∀ a n m, pv = .slice (some a) n m → i ≠ a.block) → s'.get i = s.get i) ∧ (∀ a n m, v' = .slice (some a) n m → s.next ≤ a.block) ∧
      LInv s0 b0 c (s'.put b0 (.cells false [.bool c, ev, v'])) ev v' o ees (pes ++ [e]) es (pl ++ [p]) ws := by
  have hc := (Pts.one he hs).cells e (by simp)
  have hw := h.wm
  have hold := h.old
  have hpl := h.ptsP.len
  obtain ⟨v', s', h1, h2, h3, h4, h5, h6, h7⟩ := own_append (bytes := 112) h.fresh h.ownP (single_row (by omega) hc.1 hg) (by intro x hx; rw [List.mem_singleton.1 hx]; exact fun c hcc => (hc.2 c hcc).1) (by simp) (by omega) (by omega) (by omega) (by simp; omega)
  have hbox : s'.get b0 = some (.cells false [.bool c, ev, pv]) := by
    rw [h6 b0 h.old ?_]
    · exact h.box
    · intro a n m hv
      have := h.ownP.far a n m hv
      omega
  refine ⟨v', s', h1, h2.oneV, by rw [h4, hw], hbox, h5, fun i hi hi2 _ hne => h6 i hi2 hne, h7, ?_⟩
  refine ⟨h3.put (by omega), by simp; omega, by rw [St.put_wm, h4, hw], get_eq _ _ _, ?_, ?_, h.ptsP.append (Pts.one he hs), ?_, h.ptsO, ?_, h.ap2, ?_, ?_⟩
  · refine h.ownE.block (fun b _ hlo hlt hx => ?_) (by simp; omega) (by rw [St.put_wm, h4])
    rw [get_ne (by omega), h6 b hlt ?_]
    obtain ⟨a, n, m, ha, rfl⟩ := hx
    intro a' n' m' hv
    exact h.ap1 _ _ _ _ _ _ ha hv
  · refine h2.keep (fun i hi _ => by rw [get_ne (by omega)]) (by simp) (by simp)
  · refine h.ownO.block (fun b _ hlo hlt hx => ?_) (by simp; omega) (by rw [St.put_wm, h4])
    rw [get_ne (by omega), h6 b hlt ?_]
    obtain ⟨a, n, m, ha, rfl⟩ := hx
    intro a' n' m' hv
    exact (h.ap3 _ _ _ _ _ _ hv ha).symm
  · exact (fresh_apart h7 h.ownE (Nat.le_refl _)).symm
  · exact fresh_apart h7 h.ownO (Nat.le_refl _)
  · intro i hi
    rw [get_ne (by omega), h6 i (by omega) ?_]
    · exact h.low i hi
    · intro a n m hv
      have := h.ownP.far a n m hv
      omega

/-- An edge comes to the line's edges. -/
theorem LInv.appE (h : LInv s0 b0 c s ev pv o ees pes es pl ws) {x y : Int} (hl : ees.length ≤ 1000) {base : Nat} (hb : base + 1 = s.next) (hg : s.get base = some (.cells false [.int .i64 x, .int .i64 y])) (hb0 : b0 < base) :
    ∃ v' s', opAppend s 2 16 ev (.slice (some ⟨base, 0, none⟩) 1 2) = some (v', s') ∧ oneCell v' = true ∧ s'.wm = b0 ∧ s'.get b0 = some (.cells false [.bool c, ev, pv]) ∧ s.next ≤ s'.next ∧
      (∀ i, b0 < i → i < s.next → (∃ cs, s.get i = some cs) → (∀ a n m, ev = .slice (some a) n m → i ≠ a.block) → s'.get i = s.get i) ∧ (∀ a n m, v' = .slice (some a) n m → s.next ≤ a.block) ∧
      LInv s0 b0 c (s'.put b0 (.cells false [.bool c, v', pv])) v' pv o (ees ++ [[.int .i64 x, .int .i64 y]]) pes es pl ws := by
  have hw := h.wm
  have hold := h.old
  obtain ⟨v', s', h1, h2, h3, h4, h5, h6, h7⟩ := own_append (bytes := 16) h.fresh h.ownE (single_row (z := 2) (by omega) rfl hg) (by intro x hx; rw [List.mem_singleton.1 hx]; intro c hc; simp at hc; rcases hc with rfl | rfl <;> rfl) (by simp) (by omega) (by omega) (by omega) (by simp; omega)
  have hbox : s'.get b0 = some (.cells false [.bool c, ev, pv]) := by
    rw [h6 b0 h.old ?_]
    · exact h.box
    · intro a n m hv
      have := h.ownE.far a n m hv
      omega
  refine ⟨v', s', h1, h2.oneV, by rw [h4, hw], hbox, h5, fun i hi hi2 _ hne => h6 i hi2 hne, h7, ?_⟩
  refine ⟨h3.put (by omega), by simp; omega, by rw [St.put_wm, h4, hw], get_eq _ _ _, ?_, ?_, h.ptsP, ?_, h.ptsO, ?_, ?_, h.ap3, ?_⟩
  · refine h2.keep (fun i hi _ => by rw [get_ne (by omega)]) (by simp) (by simp)
  · refine h.ownP.block (fun b _ hlo hlt hx => ?_) (by simp; omega) (by rw [St.put_wm, h4])
    rw [get_ne (by omega), h6 b hlt ?_]
    obtain ⟨a, n, m, ha, rfl⟩ := hx
    intro a' n' m' hv
    exact (h.ap1 _ _ _ _ _ _ hv ha).symm
  · refine h.ownO.block (fun b _ hlo hlt hx => ?_) (by simp; omega) (by rw [St.put_wm, h4])
    rw [get_ne (by omega), h6 b hlt ?_]
    obtain ⟨a, n, m, ha, rfl⟩ := hx
    intro a' n' m' hv
    exact (h.ap2 _ _ _ _ _ _ hv ha).symm
  · exact fresh_apart h7 h.ownP (Nat.le_refl _)
  · exact fresh_apart h7 h.ownO (Nat.le_refl _)
  · intro i hi
    rw [get_ne (by omega), h6 i (by omega) ?_]
    · exact h.low i hi
    · intro a n m hv
      have := h.ownE.far a n m hv
      omega

/-- A point comes to what is wanted. -/
theorem LInv.appO (h : LInv s0 b0 c s ev pv o ees pes es pl ws) {e : List Value} {p : P} (he : IsSpot (.agg ⟨e⟩) p) (hs : Ss p) (hl : ws.length ≤ 1000) {base : Nat} (hb : base + 1 = s.next) (hg : s.get base = some (.cells false e)) (hb0 : b0 < base) :
    ∃ v' s', opAppend s 6 112 o (.slice (some ⟨base, 0, none⟩) 1 6) = some (v', s') ∧ LInv s0 b0 c s' ev pv v' ees pes (es ++ [e]) pl (ws ++ [p]) := by
  have hc := (Pts.one he hs).cells e (by simp)
  have hw := h.wm
  have hold := h.old
  have hpl := h.ptsO.len
  obtain ⟨v', s', h1, h2, h3, h4, h5, h6, h7⟩ := own_append (bytes := 112) h.fresh h.ownO (single_row (by omega) hc.1 hg) (by intro x hx; rw [List.mem_singleton.1 hx]; exact fun c hcc => (hc.2 c hcc).1) (by simp) (by omega) (by omega) (by omega) (by simp; omega)
  refine ⟨v', s', h1, h3, by omega, by rw [h4, hw], ?_, ?_, ?_, h.ptsP, h2, h.ptsO.append (Pts.one he hs), h.ap1, ?_, ?_, ?_⟩
  · rw [h6 b0 h.old ?_]
    · exact h.box
    · intro a n m hv
      have := h.ownO.far a n m hv
      omega
  · refine h.ownE.block (fun b _ hlo hlt hx => ?_) h5 h4
    rw [h6 b hlt ?_]
    obtain ⟨a, n, m, ha, rfl⟩ := hx
    intro a' n' m' hv
    exact h.ap2 _ _ _ _ _ _ ha hv
  · refine h.ownP.block (fun b _ hlo hlt hx => ?_) h5 h4
    rw [h6 b hlt ?_]
    obtain ⟨a, n, m, ha, rfl⟩ := hx
    intro a' n' m' hv
    exact h.ap3 _ _ _ _ _ _ ha hv
  · exact (fresh_apart h7 h.ownE (Nat.le_refl _)).symm
  · exact (fresh_apart h7 h.ownP (Nat.le_refl _)).symm
  · intro i hi
    rw [h6 i (by omega) ?_]
    · exact h.low i hi
    · intro a n m hv
      have := h.ownO.far a n m hv
      omega
end
end Go.Iso

namespace Go.Iso
open Go.Ev
variable {prog : Nat → Option CDecl} [A : Arith prog]

/-- The block of a point that is being added. -/
structure QInv (s : St) (b0 qb : Nat) (e : List Value) (ev pv o : Value) : Prop where
  get : s.get qb = some (.cells false e)
  lo : b0 < qb
  hi : qb < s.next
  ne1 : ∀ a n m, ev = .slice (some a) n m → qb ≠ a.block
  ne2 : ∀ a n m, pv = .slice (some a) n m → qb ≠ a.block
  ne3 : ∀ a n m, o = .slice (some a) n m → qb ≠ a.block

theorem rep_loop {s0 : St} {b0 : Nat} {c : Bool} {rv lv ln : Value} {i : Nat} {p : P} {e : List Value} {qb n : Nat} {es : List (List Value)} {ws : List P} {o : Value} (he : IsSpot (.agg ⟨e⟩) p) (hs : Ss p) (hi : i ≤ 8) {pl : List P} (hpl : pl.length ≤ 100) {el : Nat} (hel : el ≤ 100) (hn : n ≤ 2)
    {k : List KItem} {Q : Ex → Fr → St → Prop}
    (hexit : ∀ s ev pv ees pes G, LInv s0 b0 c s ev pv o ees pes es (pl ++ List.replicate n p) ws → QInv s b0 qb e ev pv o → ees.length ≤ el + n →
      contK prog (upd (upd (upd (upd (upd (upd (upd (upd (upd G 24 (i64 i)) 23 ln) 22 lv) 11 (.pointer (some ⟨qb, 0, none⟩))) 9 (i64 i)) 8 o) 7 (.pointer (some ⟨b0, 0, none⟩))) 2 (.bool c)) 1 rv) s k Q) :
    ∀ m j s ev pv ees pes, j + m = n → LInv s0 b0 c s ev pv o ees pes es (pl ++ List.replicate j p) ws → QInv s b0 qb e ev pv o → ees.length ≤ el + j →
      loopK prog [1, 2, 7, 8, 9, 11, 22, 23, 24, 43, 44] c_l20_ChainThins_lp0 (upd (upd (upd (upd (upd (upd (upd (upd (upd (upd (upd (fun _ => unk) 44 (i64 j)) 43 (i64 n)) 24 (i64 i)) 23 ln) 22 lv) 11 (.pointer (some ⟨qb, 0, none⟩))) 9 (i64 i)) 8 o) 7 (.pointer (some ⟨b0, 0, none⟩))) 2 (.bool c)) 1 rv) s (.blk 2 :: k) Q := by
  intro m
  induction m with
  | zero =>
    intro j s ev pv ees pes hj hinv hq hl
    have hj : j = n := by omega
    subst hj
    have hlt : ¬ (j : Int) < j := by omega
    refine loopK.stepAs c_l20_ChainThins_lp0.eq_1 ?_
    simp only [hlt, k_skip, k_seq, k_cond, k_block, k_loop, k_range, k_exit, k_scope, k_ret, k_region, c_nil, c_seq, c_blk, c_lp, e_nil, e_seq, e_blk, e_lp, r_nil, r_seq, r_blk, r_lp, o_nil, o_p, o_pg, o_l, o_a, o_c, o_cg, o_store, o_mapU, o_app, o_copy, o_del, evP, evA, ev_tmp, ev_const, ev_func, evArgs_nil, evArgs_cons, evParts_nil, evParts_cons, evOpt_none, evOpt_some, putO_some, putO_none, restrict_cons, restrict_nil, argFr_cons, argFr_nil, upd_app, Nat.reduceAdd, Nat.reduceEqDiff, Nat.zero_add, Nat.add_zero, bump_zero, St.bump_next, St.put_next, decide_eq_true_eq, condK_bool, stepP_some, stepA_some, stepE_some, stepE_pend, grdK_bool, grdK_undf, opPick_dec, opPick_true, opPick_false, bin_eql, bin_neq, bin_lss, bin_leq, bin_gtr, bin_geq, bin_add64, bin_sub64, bin_mul64, pendOk_nil, passed_nil, n_add, n_mul, n_and, bin_and32, bin_shr32, conv_nat, un_not, conv_64, decide_true, decide_false, true_implies, false_implies, forall_const, and_true, true_and, eq_self, ne_eq, ↓reduceIte, implies_true, Int.reduceLT, Int.reduceGT, Int.reduceLE, Int.reduceEq, Int.reduceNeg, and_self, Bool.not_eq_true, end_ret, end_nrm, endK_some, res_nil, res_tmp, res_cell1, res_cellN, resVal_one, resVal_none, resVal_two, Option.map_some, Option.bind_some, opExtract_eq, List.getElem?_cons_zero, List.getElem?_cons_succ, opNil_ptr, fld_ptr, Nat.mul_one, kbb]
    exact hexit s ev pv ees pes _ hinv hq hl
  | succ m ih =>
    intro j s ev pv ees pes hj hinv hq hl
    have hlt : (j : Int) < n := by omega
    have hj1 : (j : Int) + 1 = (j + 1 : Nat) := by omega
    have hold := hinv.old
    have hwm := hinv.wm
    have hbox := hinv.box
    have hqg := hq.get
    have hqlo := hq.lo
    have hqhi := hq.hi
    obtain ⟨n1, d1, n2, d2, hE, m1, m2, m3, m4⟩ := he.is
    have hE : e = [.bool (decide (p.1.num < 0)), n1, d1, .bool (decide (p.2.num < 0)), n2, d2] := by
      injection hE with hE
      injection hE
    subst hE
    have hfr1 := (hinv.fresh.bump 1).put (b := s.next) (o := .cells false [.bool (decide (p.1.num < 0)), n1, d1, .bool (decide (p.2.num < 0)), n2, d2]) (by simp)
    have hinv1 := hinv.mid hfr1 (by simp) rfl (fun j hj => by rw [get_ne (by omega)]; rfl)
    obtain ⟨pv', s2, ha1, ho1, hw1, hb1, hn1, hfr2, hfar1, hinv2⟩ := hinv1.appP he hs (by simp; omega) (base := s.next) (by simp) (get_eq _ _ _) hold
    replace hn1 : s.next + 1 ≤ s2.next := hn1
    have hqg1 : s2.get qb = some (.cells false [.bool (decide (p.1.num < 0)), n1, d1, .bool (decide (p.2.num < 0)), n2, d2]) := by
      rw [hfr2 qb hqlo (by simp; omega) ⟨.cells false [.bool (decide (p.1.num < 0)), n1, d1, .bool (decide (p.2.num < 0)), n2, d2], by rw [get_ne (by omega)]; exact hqg⟩ hq.ne2, get_ne (by omega)]
      exact hqg
    have hfr3 := (hinv2.fresh.bump 1).put (b := s2.next) (o := .cells false [.int .i64 i, .int .i64 ((i : Int) + 1)]) (by simp)
    have hinv3 := hinv2.mid hfr3 (by simp) rfl (fun j hj => by rw [get_ne (by simp at hj; omega)]; rfl)
    obtain ⟨ev', s4, ha2, ho2, hw2, hb2, hn2, hfr4, hfar2, hinv4⟩ := hinv3.appE (x := i) (y := (i : Int) + 1) (by omega) (base := s2.next) (by simp) (get_eq _ _ _) (by omega)
    replace hn2 : s2.next + 1 ≤ s4.next := hn2
    refine loopK.stepAs c_l20_ChainThins_lp0.eq_1 ?_
    simp (disch := omega) only [hlt, hj1, hbox, hqg, ha1, ho1, hw1, hb1, vcells_of ho1, ha2, ho2, hw2, hb2, vcells_of ho2, opBuildSlice_eq, reps_succ, reps_zero, m1.one, m2.one, m3.one, m4.one, k_skip, k_seq, k_cond, k_block, k_loop, k_range, k_exit, k_scope, k_ret, k_region, c_nil, c_seq, c_blk, c_lp, e_nil, e_seq, e_blk, e_lp, r_nil, r_seq, r_blk, r_lp, o_nil, o_p, o_pg, o_l, o_a, o_c, o_cg, o_store, o_mapU, o_app, o_copy, o_del, evP, evA, ev_tmp, ev_const, ev_func, evArgs_nil, evArgs_cons, evParts_nil, evParts_cons, evOpt_none, evOpt_some, putO_some, putO_none, restrict_cons, restrict_nil, argFr_cons, argFr_nil, upd_app, Nat.reduceAdd, Nat.reduceEqDiff, Nat.zero_add, Nat.add_zero, bump_zero, St.bump_next, St.put_next, decide_eq_true_eq, condK_bool, stepP_some, stepA_some, stepE_some, stepE_pend, grdK_bool, grdK_undf, opPick_dec, opPick_true, opPick_false, bin_eql, bin_neq, bin_lss, bin_leq, bin_gtr, bin_geq, bin_add64, bin_sub64, bin_mul64, pendOk_nil, passed_nil, n_add, n_mul, n_and, bin_and32, bin_shr32, conv_nat, un_not, conv_64, decide_true, decide_false, true_implies, false_implies, forall_const, and_true, true_and, eq_self, ne_eq, ↓reduceIte, implies_true, Int.reduceLT, Int.reduceGT, Int.reduceLE, Int.reduceEq, Int.reduceNeg, and_self, Bool.not_eq_true, end_ret, end_nrm, endK_some, res_nil, res_tmp, res_cell1, res_cellN, resVal_one, resVal_none, resVal_two, Option.map_some, Option.bind_some, opExtract_eq, List.getElem?_cons_zero, List.getElem?_cons_succ, opNil_ptr, fld_ptr, Nat.mul_one, kbb, loadV_box, load1_box, loadN_box, cellsN_some, drop?_zero, drop?_succ, take?_zero, take?_succ, one?_some, store_box, storeC_some, get_eq, get_ne, loadOf_1, loadOf_n, stepL_some, loadK_some, pend_zero, pend_succ, passed_one, passed_more, prevOk_zero, prevOk_nil, prevOk_cons, pendOk_cons, sameLoadK_eq, St.bump_get, bump_getF, St.bump_wm, St.put_wm, St.get_put, Nat.le_add_right, Nat.le_refl, Bool.true_and, Bool.and_true, Bool.and_self, opBuild_eq, opBox_eq, parts_nil, parts_cons, fill_nil, fill_cons, splice_nil, splice_zero, splice_succ, vcells_int, vcells_bool, vcells_ptr, vcells_slice, vcells_map, vcells_agg, one_int, one_bool, one_ptr, one_slice, one_map, List.length_cons, List.length_nil, List.all_cons, List.all_nil, List.append_nil, List.cons_append, List.nil_append, sameK_eq, vsamesF_nil, vsamesF_cons, same_bool, same_int, same_ptr, same_slice, same_map, eq_bool, neq_bool]
    refine ih (j + 1) _ ev' pv' (ees ++ [[.int .i64 i, .int .i64 ((i : Int) + 1)]]) (pes ++ [[.bool (decide (p.1.num < 0)), n1, d1, .bool (decide (p.2.num < 0)), n2, d2]]) (by omega) ?_ ?_ (by simp; omega)
    · rw [List.replicate_succ', ← List.append_assoc]
      exact hinv4
    · refine ⟨?_, hqlo, by simp; omega, ?_, ?_, hq.ne3⟩
      · rw [get_ne (by omega), hfr4 qb hqlo (by simp; omega) ⟨.cells false [.bool (decide (p.1.num < 0)), n1, d1, .bool (decide (p.2.num < 0)), n2, d2], by rw [get_ne (by omega)]; exact (get_ne (by omega)).trans hqg1⟩ hq.ne1, get_ne (by omega)]
        exact (get_ne (by omega)).trans hqg1
      · intro a k m e
        have h9 : s2.next + 1 ≤ a.block := hfar2 a k m e
        omega
      · intro a k m e
        have h9 : s.next + 1 ≤ a.block := hfar1 a k m e
        omega
end Go.Iso

namespace Go.Iso
open Go.Ev
variable {prog : Nat → Option CDecl} [A : Arith prog]

/-- Bytes, as a row of cells. -/
def W8 (bs : List Nat) : List (List Value) := bs.map fun (b : Nat) => [.int .u8 (b : Int)]
theorem W8_len (bs : List Nat) : (W8 bs).length = bs.length := by simp [W8]
theorem W8_at {bs : List Nat} {i : Nat} (h : i < bs.length) : ((W8 bs).getD i []).getD 0 undf = .int .u8 (bs.getD i 0 : Int) := by
  simp [W8, List.getD, h]
theorem and_one (b : Nat) : ∃ k : Nat, k ≤ 1 ∧ opBin .and (.int .u8 (b : Int)) (.int .u8 1) = some (.int .u8 (k : Int)) := by
  refine ⟨(BitVec.ofInt 8 (b : Int) &&& BitVec.ofInt 8 1).toNat, ?_, ?_⟩
  · rw [BitVec.toNat_and]
    have : (BitVec.ofInt 8 1).toNat = 1 := by decide
    rw [this]
    exact Nat.and_le_right
  · have hlt : (BitVec.ofInt 8 (b : Int) &&& BitVec.ofInt 8 1).toNat ≤ 1 := by
      rw [BitVec.toNat_and]
      have : (BitVec.ofInt 8 1).toNat = 1 := by decide
      rw [this]
      exact Nat.and_le_right
    show (bif decide (IntKind.u8 = IntKind.u8) then bitI .and .u8 (b : Int) 1 else none) = _
    simp only [decide_true, cond_true, bitI]
    have h2 : ∀ n : Nat, n ≤ 1 → wrapQ .u8 (.ofNat n) = (n : Int) := by
      intro n hn
      rcases Nat.lt_or_ge n 1 with h | h
      · have : n = 0 := by omega
        subst this; decide
      · have : n = 1 := by omega
        subst this; decide
    exact congrArg some (congrArg (Value.int .u8) (h2 _ hlt))

theorem dedup_append (l m : List P) : dedup (l ++ m) = m.foldl dedup1 (dedup l) := by
  simp [dedup, List.foldl_append]
theorem dedup1_twice (out : List P) (p : P) : dedup1 (dedup1 out p) p = dedup1 out p := by
  unfold dedup1
  by_cases h : out.getLast? = some p
  · simp [h]
  · simp [h]
theorem dedup_rep {l : List P} {p : P} {n : Nat} (h1 : 1 ≤ n) (h2 : n ≤ 2) : dedup (l ++ List.replicate n p) = dedup1 (dedup l) p := by
  rw [dedup_append]
  rcases Nat.lt_or_ge n 2 with h | h
  · have : n = 1 := by omega
    subst this; rfl
  · have : n = 2 := by omega
    subst this
    show dedup1 (dedup1 (dedup l) p) p = _
    exact dedup1_twice _ _

/-- What the law is handed. -/
structure LIn (s : St) (lv rv : Value) (les : List (List Value)) (qs : List P) (bs : List Nat) : Prop where
  rowL : RowL s 6 lv les
  len : les.length = qs.length
  raw : ∀ i, i < qs.length → RawS s (les.getD i []) (qs.getD i (0, 0))
  small : qs.length ≤ 8
  rowR : RowL s 1 rv (W8 bs)

theorem law_loop {s0 : St} {b0 : Nat} {c : Bool} {rv lv : Value} {les : List (List Value)} {qs : List P} {bs : List Nat} (hin : LIn s0 lv rv les qs bs) (hb0 : b0 = s0.next)
    {k : List KItem} {Q : Ex → Fr → St → Prop}
    (hexit : ∀ s ev pv o ees pes es pl G, LInv s0 b0 c s ev pv o ees pes es pl (dedup qs) → dedup pl = dedup qs → pl.length ≤ 16 →
      contK prog (upd (upd (upd (upd G 8 o) 7 (.pointer (some ⟨b0, 0, none⟩))) 2 (.bool c)) 1 rv) s k Q) :
    ∀ m i s ev pv o ees pes es pl, i + m = qs.length → LInv s0 b0 c s ev pv o ees pes es pl (dedup (qs.take i)) → dedup pl = dedup (qs.take i) → pl.length ≤ 2 * i → ees.length ≤ 2 * i →
      loopK prog [1, 2, 7, 8, 22, 23, 24] c_l20_ChainThins_lp1 (upd (upd (upd (upd (upd (upd (upd (fun _ => unk) 24 (i64 i)) 23 (i64 qs.length)) 22 lv) 8 o) 7 (.pointer (some ⟨b0, 0, none⟩))) 2 (.bool c)) 1 rv) s (.blk 0 :: k) Q := by
  intro m
  induction m with
  | zero =>
    intro i s ev pv o ees pes es pl hi hinv hpl hlen hel
    have hi : i = qs.length := by omega
    subst hi
    have hlt : ¬ (qs.length : Int) < qs.length := by omega
    refine loopK.stepAs c_l20_ChainThins_lp1.eq_1 ?_
    simp only [hlt, k_skip, k_seq, k_cond, k_block, k_loop, k_range, k_exit, k_scope, k_ret, k_region, c_nil, c_seq, c_blk, c_lp, e_nil, e_seq, e_blk, e_lp, r_nil, r_seq, r_blk, r_lp, o_nil, o_p, o_pg, o_l, o_a, o_c, o_cg, o_store, o_mapU, o_app, o_copy, o_del, evP, evA, ev_tmp, ev_const, ev_func, evArgs_nil, evArgs_cons, evParts_nil, evParts_cons, evOpt_none, evOpt_some, putO_some, putO_none, restrict_cons, restrict_nil, argFr_cons, argFr_nil, upd_app, Nat.reduceAdd, Nat.reduceEqDiff, Nat.zero_add, Nat.add_zero, bump_zero, St.bump_next, St.put_next, decide_eq_true_eq, condK_bool, stepP_some, stepA_some, stepE_some, stepE_pend, grdK_bool, grdK_undf, opPick_dec, opPick_true, opPick_false, bin_eql, bin_neq, bin_lss, bin_leq, bin_gtr, bin_geq, bin_add64, bin_sub64, bin_mul64, pendOk_nil, passed_nil, n_add, n_mul, n_and, bin_and32, bin_shr32, conv_nat, un_not, conv_64, decide_true, decide_false, true_implies, false_implies, forall_const, and_true, true_and, eq_self, ne_eq, ↓reduceIte, implies_true, Int.reduceLT, Int.reduceGT, Int.reduceLE, Int.reduceEq, Int.reduceNeg, and_self, Bool.not_eq_true, end_ret, end_nrm, endK_some, res_nil, res_tmp, res_cell1, res_cellN, resVal_one, resVal_none, resVal_two, Option.map_some, Option.bind_some, opExtract_eq, List.getElem?_cons_zero, List.getElem?_cons_succ, opNil_ptr, fld_ptr, Nat.mul_one, kbb]
    rw [List.take_length] at hinv hpl
    have := hin.small
    exact hexit s ev pv o ees pes es pl _ hinv hpl (by omega)
  | succ m ih =>
    intro i s ev pv o ees pes es pl hi hinv hpl hlen hel
    have hlt : (i : Int) < qs.length := by omega
    have hi1 : (i : Int) + 1 = (i + 1 : Nat) := by omega
    have ht : (i : Int).toNat = i := by omega
    have hsmall := hin.small
    have hold := hinv.old
    have hwm := hinv.wm
    have hL : Later s0 s := ⟨by omega, fun j hj => hinv.low j (by omega)⟩
    have hr := hin.rowL s hL
    have hll := hin.len
    have hle : (les.length : Int) = qs.length := by omega
    have hraw := hin.raw i (by omega)
    have hsz := hraw.sz
    have hstep : dedup (qs.take (i + 1)) = dedup1 (dedup (qs.take i)) (qs.getD i (0, 0)) := by
      have : qs.take (i + 1) = qs.take i ++ [qs.getD i (0, 0)] := by
        rw [List.take_succ_eq_append_getElem (by omega)]
        congr 2
        simp [List.getD, show i < qs.length by omega]
      rw [this, dedup_append]
      rfl
    have hwl : (dedup (qs.take i)).length ≤ i := Nat.le_trans (dedup_len _) (by rw [List.length_take]; omega)
    generalize hws : dedup (qs.take i) = ws at *
    generalize qs.getD i (0, 0) = p at *
    have hld := hr.loadN0 (i := i) (by omega)
    have hraw0 := hraw
    obtain ⟨b1, v1, w1, b2, v2, w2, x1, y1, x2, y2, hE, _⟩ := hraw.is
    have hone := hraw.one
    rw [hE] at hraw hld hone
    have o1 := hone v1 (by simp)
    have o2 := hone w1 (by simp)
    have o3 := hone v2 (by simp)
    have o4 := hone w2 (by simp)
    -- the two blocks
    have hfr1 : Fresh (((s.bump 1).put s.next (.cells false [.bool false, .slice none 0 0, .slice none 0 0, .bool false, .slice none 0 0, .slice none 0 0])).put s.next (.cells false [.bool b1, v1, w1, .bool b2, v2, w2])) :=
      ((hinv.fresh.bump 1).put (by simp)).put (by simp)
    have hinv1 : LInv s0 b0 c (((s.bump 1).put s.next (.cells false [.bool false, .slice none 0 0, .slice none 0 0, .bool false, .slice none 0 0, .slice none 0 0])).put s.next (.cells false [.bool b1, v1, w1, .bool b2, v2, w2])) ev pv o ees pes es pl ws :=
      hinv.mid hfr1 (by simp) rfl (fun j hj => by rw [get_ne (by omega), get_ne (by omega)]; rfl)
    have hL1 : Later s0 ((((s.bump 1).put s.next (.cells false [.bool false, .slice none 0 0, .slice none 0 0, .bool false, .slice none 0 0, .slice none 0 0])).put s.next (.cells false [.bool b1, v1, w1, .bool b2, v2, w2])).bump 1) :=
      ((((hL.bump 1).put (by omega)).put (by omega)).bump 1)
    obtain ⟨T, hT1, hT2⟩ := Tame_ret (hfr1.bump 1) (hraw.later hL1)
    have hT3 := hT2
    obtain ⟨n1, d1, n2, d2, hTe, m1, m2, m3, m4⟩ := hT2.is
    subst hTe
    have hfr2 : Fresh ((((((s.bump 1).put s.next (.cells false [.bool false, .slice none 0 0, .slice none 0 0, .bool false, .slice none 0 0, .slice none 0 0])).put s.next (.cells false [.bool b1, v1, w1, .bool b2, v2, w2])).bump 1).put (s.next + 1) (.cells false [.bool false, .slice none 0 0, .slice none 0 0, .bool false, .slice none 0 0, .slice none 0 0])).put (s.next + 1) (.cells false [.bool (decide (p.1.num < 0)), n1, d1, .bool (decide (p.2.num < 0)), n2, d2])) :=
      ((hfr1.bump 1).put (by simp)).put (by simp)
    have hinv2 := hinv1.mid hfr2 (by simp) rfl (fun j hj => by
      have hj : j < s.next + 1 := hj
      rw [get_ne (by omega), get_ne (by omega)]; rfl)
    have hL2 : Later s0 ((((((s.bump 1).put s.next (.cells false [.bool false, .slice none 0 0, .slice none 0 0, .bool false, .slice none 0 0, .slice none 0 0])).put s.next (.cells false [.bool b1, v1, w1, .bool b2, v2, w2])).bump 1).put (s.next + 1) (.cells false [.bool false, .slice none 0 0, .slice none 0 0, .bool false, .slice none 0 0, .slice none 0 0])).put (s.next + 1) (.cells false [.bool (decide (p.1.num < 0)), n1, d1, .bool (decide (p.2.num < 0)), n2, d2])) :=
      (hL1.put (by omega)).put (by omega)
    have hq2 : QInv ((((((s.bump 1).put s.next (.cells false [.bool false, .slice none 0 0, .slice none 0 0, .bool false, .slice none 0 0, .slice none 0 0])).put s.next (.cells false [.bool b1, v1, w1, .bool b2, v2, w2])).bump 1).put (s.next + 1) (.cells false [.bool false, .slice none 0 0, .slice none 0 0, .bool false, .slice none 0 0, .slice none 0 0])).put (s.next + 1) (.cells false [.bool (decide (p.1.num < 0)), n1, d1, .bool (decide (p.2.num < 0)), n2, d2])) b0 (s.next + 1) [.bool (decide (p.1.num < 0)), n1, d1, .bool (decide (p.2.num < 0)), n2, d2] ev pv o :=
      ⟨get_eq _ _ _, by omega, by simp, fun a n m e => by have := hinv.ownE.before a n m e; omega, fun a n m e => by have := hinv.ownP.before a n m e; omega, fun a n m e => by have := hinv.ownO.before a n m e; omega⟩
    have hrr := hin.rowR _ hL2
    have hrl := hrr.len
    rw [W8_len] at hrl
    have hwle : (s.wm ≤ s.next) = True := eq_true (by omega)
    have hwle1 : (s.wm ≤ s.next + 1) = True := eq_true (by omega)
    -- behind the loop that repeats the point
    have after : ∀ n, 1 ≤ n → n ≤ 2 → ∀ G,
        wpK prog c_l20_ChainThins_r0 (upd (upd (upd (upd (upd (upd (upd (upd (upd (upd G 24 (i64 i)) 23 (i64 qs.length)) 22 lv) 12 (i64 (n : Nat))) 11 (.pointer (some ⟨s.next + 1, 0, none⟩))) 9 (i64 i)) 8 o) 7 (.pointer (some ⟨b0, 0, none⟩))) 2 (.bool c)) 1 rv)
          ((((((s.bump 1).put s.next (.cells false [.bool false, .slice none 0 0, .slice none 0 0, .bool false, .slice none 0 0, .slice none 0 0])).put s.next (.cells false [.bool b1, v1, w1, .bool b2, v2, w2])).bump 1).put (s.next + 1) (.cells false [.bool false, .slice none 0 0, .slice none 0 0, .bool false, .slice none 0 0, .slice none 0 0])).put (s.next + 1) (.cells false [.bool (decide (p.1.num < 0)), n1, d1, .bool (decide (p.2.num < 0)), n2, d2]))
          (.blk 1 :: .seq (.region 0 [1, 2, 7, 8, 22, 23, 24] [
          Go.Iso.o 80 (.p (.bin .add (t 24) (.const (.int .i64 1)))),
          Go.Iso.o 24 (.p (.move (t 80)))]) :: .lp [1, 2, 7, 8, 22, 23, 24] c_l20_ChainThins_lp1 :: .blk 0 :: k) Q := by
      intro n hn1 hn2 G
      simp (disch := omega) only [c_l20_ChainThins_r0, k_skip, k_seq, k_cond, k_block, k_loop, k_range, k_exit, k_scope, k_ret, k_region, c_nil, c_seq, c_blk, c_lp, e_nil, e_seq, e_blk, e_lp, r_nil, r_seq, r_blk, r_lp, o_nil, o_p, o_pg, o_l, o_a, o_c, o_cg, o_store, o_mapU, o_app, o_copy, o_del, evP, evA, ev_tmp, ev_const, ev_func, evArgs_nil, evArgs_cons, evParts_nil, evParts_cons, evOpt_none, evOpt_some, putO_some, putO_none, restrict_cons, restrict_nil, argFr_cons, argFr_nil, upd_app, Nat.reduceAdd, Nat.reduceEqDiff, Nat.zero_add, Nat.add_zero, bump_zero, St.bump_next, St.put_next, decide_eq_true_eq, condK_bool, stepP_some, stepA_some, stepE_some, stepE_pend, grdK_bool, grdK_undf, opPick_dec, opPick_true, opPick_false, bin_eql, bin_neq, bin_lss, bin_leq, bin_gtr, bin_geq, bin_add64, bin_sub64, bin_mul64, pendOk_nil, passed_nil, n_add, n_mul, n_and, bin_and32, bin_shr32, conv_nat, un_not, conv_64, decide_true, decide_false, true_implies, false_implies, forall_const, and_true, true_and, eq_self, ne_eq, ↓reduceIte, implies_true, Int.reduceLT, Int.reduceGT, Int.reduceLE, Int.reduceEq, Int.reduceNeg, and_self, Bool.not_eq_true, end_ret, end_nrm, endK_some, res_nil, res_tmp, res_cell1, res_cellN, resVal_one, resVal_none, resVal_two, Option.map_some, Option.bind_some, opExtract_eq, List.getElem?_cons_zero, List.getElem?_cons_succ, opNil_ptr, fld_ptr, Nat.mul_one, kbb, loadV_box, load1_box, loadN_box, cellsN_some, drop?_zero, drop?_succ, take?_zero, take?_succ, one?_some, store_box, storeC_some, get_eq, get_ne, loadOf_1, loadOf_n, stepL_some, loadK_some, pend_zero, pend_succ, passed_one, passed_more, prevOk_zero, prevOk_nil, prevOk_cons, pendOk_cons, sameLoadK_eq, St.bump_get, bump_getF, St.bump_wm, St.put_wm, St.get_put, Nat.le_add_right, Nat.le_refl, Bool.true_and, Bool.and_true, Bool.and_self, opBuild_eq, opBox_eq, parts_nil, parts_cons, fill_nil, fill_cons, splice_nil, splice_zero, splice_succ, vcells_int, vcells_bool, vcells_ptr, vcells_slice, vcells_map, vcells_agg, one_int, one_bool, one_ptr, one_slice, one_map, List.length_cons, List.length_nil, List.all_cons, List.all_nil, List.append_nil, List.cons_append, List.nil_append, sameK_eq, vsamesF_nil, vsamesF_cons, same_bool, same_int, same_ptr, same_slice, same_map, eq_bool, neq_bool]
      refine rep_loop (pl := pl) (el := 2 * i) hT3 hsz (by omega) (by omega) (by omega) hn2 ?_ n 0 _ ev pv ees pes (by omega) (by simpa using hinv2) hq2 (by omega)
      intro s3 ev3 pv3 ees3 pes3 G3 hinv3 hq3 hel3
      have ho := hinv3.ownO.row
      have hol := ho.len
      have hpo := hinv3.ptsO.len
      have hqg := hq3.get
      have hwm3 := hinv3.wm
      have hold3 := hinv3.old
      rw [hpo] at hol
      have hpl3 : dedup (pl ++ List.replicate n p) = dedup1 ws p := by rw [dedup_rep hn1 hn2, hpl]
      have hll3 : (pl ++ List.replicate n p).length ≤ 2 * (i + 1) := by simp; omega
      by_cases h0 : ws = []
      · have hz : ((ws.length : Int) = 0) = True := eq_true (by rw [h0]; rfl)
        have hfr4 := (hinv3.fresh.bump 1).put (b := s3.next) (o := .cells false [.bool (decide (p.1.num < 0)), n1, d1, .bool (decide (p.2.num < 0)), n2, d2]) (by simp)
        have hinv4 := hinv3.mid hfr4 (by simp) rfl (fun j hj => by rw [get_ne (by omega)]; rfl)
        obtain ⟨v', s', ha, hinv'⟩ := hinv4.appO hT3 hsz (by omega) (base := s3.next) (by simp) (get_eq _ _ _) hold3
        have hd1 : ws ++ [p] = dedup1 ws p := by rw [h0]; rfl
        rw [hd1, ← hstep] at hinv'
        simp (disch := omega) only [hol, hz, hqg, ha, hi1, opBuildSlice_eq, reps_succ, reps_zero, m1.one, m2.one, m3.one, m4.one, k_skip, k_seq, k_cond, k_block, k_loop, k_range, k_exit, k_scope, k_ret, k_region, c_nil, c_seq, c_blk, c_lp, e_nil, e_seq, e_blk, e_lp, r_nil, r_seq, r_blk, r_lp, o_nil, o_p, o_pg, o_l, o_a, o_c, o_cg, o_store, o_mapU, o_app, o_copy, o_del, evP, evA, ev_tmp, ev_const, ev_func, evArgs_nil, evArgs_cons, evParts_nil, evParts_cons, evOpt_none, evOpt_some, putO_some, putO_none, restrict_cons, restrict_nil, argFr_cons, argFr_nil, upd_app, Nat.reduceAdd, Nat.reduceEqDiff, Nat.zero_add, Nat.add_zero, bump_zero, St.bump_next, St.put_next, decide_eq_true_eq, condK_bool, stepP_some, stepA_some, stepE_some, stepE_pend, grdK_bool, grdK_undf, opPick_dec, opPick_true, opPick_false, bin_eql, bin_neq, bin_lss, bin_leq, bin_gtr, bin_geq, bin_add64, bin_sub64, bin_mul64, pendOk_nil, passed_nil, n_add, n_mul, n_and, bin_and32, bin_shr32, conv_nat, un_not, conv_64, decide_true, decide_false, true_implies, false_implies, forall_const, and_true, true_and, eq_self, ne_eq, ↓reduceIte, implies_true, Int.reduceLT, Int.reduceGT, Int.reduceLE, Int.reduceEq, Int.reduceNeg, and_self, Bool.not_eq_true, end_ret, end_nrm, endK_some, res_nil, res_tmp, res_cell1, res_cellN, resVal_one, resVal_none, resVal_two, Option.map_some, Option.bind_some, opExtract_eq, List.getElem?_cons_zero, List.getElem?_cons_succ, opNil_ptr, fld_ptr, Nat.mul_one, kbb, loadV_box, load1_box, loadN_box, cellsN_some, drop?_zero, drop?_succ, take?_zero, take?_succ, one?_some, store_box, storeC_some, get_eq, get_ne, loadOf_1, loadOf_n, stepL_some, loadK_some, pend_zero, pend_succ, passed_one, passed_more, prevOk_zero, prevOk_nil, prevOk_cons, pendOk_cons, sameLoadK_eq, St.bump_get, bump_getF, St.bump_wm, St.put_wm, St.get_put, Nat.le_add_right, Nat.le_refl, Bool.true_and, Bool.and_true, Bool.and_self, opBuild_eq, opBox_eq, parts_nil, parts_cons, fill_nil, fill_cons, splice_nil, splice_zero, splice_succ, vcells_int, vcells_bool, vcells_ptr, vcells_slice, vcells_map, vcells_agg, one_int, one_bool, one_ptr, one_slice, one_map, List.length_cons, List.length_nil, List.all_cons, List.all_nil, List.append_nil, List.cons_append, List.nil_append, sameK_eq, vsamesF_nil, vsamesF_cons, same_bool, same_int, same_ptr, same_slice, same_map, eq_bool, neq_bool]
        exact ih (i + 1) _ _ _ _ _ _ _ _ (by omega) hinv' (by rw [hpl3, hstep]) hll3 (by omega)
      · have hpos := List.length_pos_iff.2 h0
        have hz : ((ws.length : Int) = 0) = False := eq_false (by omega)
        have ht1 : ((ws.length : Int) - 1).toNat = ws.length - 1 := by omega
        have hq := hinv3.ptsO.is (ws.length - 1) (by omega)
        have hsq : Ss (ws.getD (ws.length - 1) (0, 0)) := hinv3.ptsO.sz _ (by
          have : ws.getD (ws.length - 1) (0, 0) = ws[ws.length - 1]'(by omega) := by simp [List.getD, show ws.length - 1 < ws.length by omega]
          rw [this]; exact List.getElem_mem _)
        have hld2 := ho.loadN0 (i := ws.length - 1) (by omega)
        have hsame := sSame_ret hinv3.fresh hq hT3 hsq hsz
        simp (disch := omega) only [hol, hz, ho.addr, ht1, hld2, hqg, k_skip, k_seq, k_cond, k_block, k_loop, k_range, k_exit, k_scope, k_ret, k_region, c_nil, c_seq, c_blk, c_lp, e_nil, e_seq, e_blk, e_lp, r_nil, r_seq, r_blk, r_lp, o_nil, o_p, o_pg, o_l, o_a, o_c, o_cg, o_store, o_mapU, o_app, o_copy, o_del, evP, evA, ev_tmp, ev_const, ev_func, evArgs_nil, evArgs_cons, evParts_nil, evParts_cons, evOpt_none, evOpt_some, putO_some, putO_none, restrict_cons, restrict_nil, argFr_cons, argFr_nil, upd_app, Nat.reduceAdd, Nat.reduceEqDiff, Nat.zero_add, Nat.add_zero, bump_zero, St.bump_next, St.put_next, decide_eq_true_eq, condK_bool, stepP_some, stepA_some, stepE_some, stepE_pend, grdK_bool, grdK_undf, opPick_dec, opPick_true, opPick_false, bin_eql, bin_neq, bin_lss, bin_leq, bin_gtr, bin_geq, bin_add64, bin_sub64, bin_mul64, pendOk_nil, passed_nil, n_add, n_mul, n_and, bin_and32, bin_shr32, conv_nat, un_not, conv_64, decide_true, decide_false, true_implies, false_implies, forall_const, and_true, true_and, eq_self, ne_eq, ↓reduceIte, implies_true, Int.reduceLT, Int.reduceGT, Int.reduceLE, Int.reduceEq, Int.reduceNeg, and_self, Bool.not_eq_true, end_ret, end_nrm, endK_some, res_nil, res_tmp, res_cell1, res_cellN, resVal_one, resVal_none, resVal_two, Option.map_some, Option.bind_some, opExtract_eq, List.getElem?_cons_zero, List.getElem?_cons_succ, opNil_ptr, fld_ptr, Nat.mul_one, kbb, loadV_box, load1_box, loadN_box, cellsN_some, drop?_zero, drop?_succ, take?_zero, take?_succ, one?_some, store_box, storeC_some, get_eq, get_ne, loadOf_1, loadOf_n, stepL_some, loadK_some, pend_zero, pend_succ, passed_one, passed_more, prevOk_zero, prevOk_nil, prevOk_cons, pendOk_cons, sameLoadK_eq, St.bump_get, bump_getF, St.bump_wm, St.put_wm, St.get_put, Nat.le_add_right, Nat.le_refl, Bool.true_and, Bool.and_true, Bool.and_self, opBuild_eq, opBox_eq, parts_nil, parts_cons, fill_nil, fill_cons, splice_nil, splice_zero, splice_succ, vcells_int, vcells_bool, vcells_ptr, vcells_slice, vcells_map, vcells_agg, one_int, one_bool, one_ptr, one_slice, one_map, List.length_cons, List.length_nil, List.all_cons, List.all_nil, List.append_nil, List.cons_append, List.nil_append, sameK_eq, vsamesF_nil, vsamesF_cons, same_bool, same_int, same_ptr, same_slice, same_map, eq_bool, neq_bool]
        refine callK.ofS hsame ?_
        by_cases heq : ws.getD (ws.length - 1) (0, 0) = p
        · have hd : decide (ws.getD (ws.length - 1) (0, 0) = p) = true := decide_eq_true heq
          have hd1 : ws = dedup1 ws p := by rw [dedup1, getLast_at h0, heq, if_pos rfl]
          simp (disch := omega) only [hd, hi1, k_skip, k_seq, k_cond, k_block, k_loop, k_range, k_exit, k_scope, k_ret, k_region, c_nil, c_seq, c_blk, c_lp, e_nil, e_seq, e_blk, e_lp, r_nil, r_seq, r_blk, r_lp, o_nil, o_p, o_pg, o_l, o_a, o_c, o_cg, o_store, o_mapU, o_app, o_copy, o_del, evP, evA, ev_tmp, ev_const, ev_func, evArgs_nil, evArgs_cons, evParts_nil, evParts_cons, evOpt_none, evOpt_some, putO_some, putO_none, restrict_cons, restrict_nil, argFr_cons, argFr_nil, upd_app, Nat.reduceAdd, Nat.reduceEqDiff, Nat.zero_add, Nat.add_zero, bump_zero, St.bump_next, St.put_next, decide_eq_true_eq, condK_bool, stepP_some, stepA_some, stepE_some, stepE_pend, grdK_bool, grdK_undf, opPick_dec, opPick_true, opPick_false, bin_eql, bin_neq, bin_lss, bin_leq, bin_gtr, bin_geq, bin_add64, bin_sub64, bin_mul64, pendOk_nil, passed_nil, n_add, n_mul, n_and, bin_and32, bin_shr32, conv_nat, un_not, conv_64, decide_true, decide_false, true_implies, false_implies, forall_const, and_true, true_and, eq_self, ne_eq, ↓reduceIte, implies_true, Int.reduceLT, Int.reduceGT, Int.reduceLE, Int.reduceEq, Int.reduceNeg, and_self, Bool.not_eq_true, end_ret, end_nrm, endK_some, res_nil, res_tmp, res_cell1, res_cellN, resVal_one, resVal_none, resVal_two, Option.map_some, Option.bind_some, opExtract_eq, List.getElem?_cons_zero, List.getElem?_cons_succ, opNil_ptr, fld_ptr, Nat.mul_one, kbb, loadV_box, load1_box, loadN_box, cellsN_some, drop?_zero, drop?_succ, take?_zero, take?_succ, one?_some, store_box, storeC_some, get_eq, get_ne, loadOf_1, loadOf_n, stepL_some, loadK_some, pend_zero, pend_succ, passed_one, passed_more, prevOk_zero, prevOk_nil, prevOk_cons, pendOk_cons, sameLoadK_eq, St.bump_get, bump_getF, St.bump_wm, St.put_wm, St.get_put, Nat.le_add_right, Nat.le_refl, Bool.true_and, Bool.and_true, Bool.and_self, opBuild_eq, opBox_eq, parts_nil, parts_cons, fill_nil, fill_cons, splice_nil, splice_zero, splice_succ, vcells_int, vcells_bool, vcells_ptr, vcells_slice, vcells_map, vcells_agg, one_int, one_bool, one_ptr, one_slice, one_map, List.length_cons, List.length_nil, List.all_cons, List.all_nil, List.append_nil, List.cons_append, List.nil_append, sameK_eq, vsamesF_nil, vsamesF_cons, same_bool, same_int, same_ptr, same_slice, same_map, eq_bool, neq_bool]
          rw [hd1, ← hstep] at hinv3
          exact ih (i + 1) _ _ _ _ _ _ _ _ (by omega) hinv3 (by rw [hpl3, hstep]) hll3 (by omega)
        · have hd : decide (ws.getD (ws.length - 1) (0, 0) = p) = false := decide_eq_false heq
          have hfr4 := (hinv3.fresh.bump 1).put (b := s3.next) (o := .cells false [.bool (decide (p.1.num < 0)), n1, d1, .bool (decide (p.2.num < 0)), n2, d2]) (by simp)
          have hinv4 := hinv3.mid hfr4 (by simp) rfl (fun j hj => by rw [get_ne (by omega)]; rfl)
          obtain ⟨v', s', ha, hinv'⟩ := hinv4.appO hT3 hsz (by omega) (base := s3.next) (by simp) (get_eq _ _ _) hold3
          have hd1 : ws ++ [p] = dedup1 ws p := by rw [dedup1, getLast_at h0, if_neg (by simpa using heq)]
          rw [hd1, ← hstep] at hinv'
          simp (disch := omega) only [hd, hqg, ha, hi1, opBuildSlice_eq, reps_succ, reps_zero, m1.one, m2.one, m3.one, m4.one, k_skip, k_seq, k_cond, k_block, k_loop, k_range, k_exit, k_scope, k_ret, k_region, c_nil, c_seq, c_blk, c_lp, e_nil, e_seq, e_blk, e_lp, r_nil, r_seq, r_blk, r_lp, o_nil, o_p, o_pg, o_l, o_a, o_c, o_cg, o_store, o_mapU, o_app, o_copy, o_del, evP, evA, ev_tmp, ev_const, ev_func, evArgs_nil, evArgs_cons, evParts_nil, evParts_cons, evOpt_none, evOpt_some, putO_some, putO_none, restrict_cons, restrict_nil, argFr_cons, argFr_nil, upd_app, Nat.reduceAdd, Nat.reduceEqDiff, Nat.zero_add, Nat.add_zero, bump_zero, St.bump_next, St.put_next, decide_eq_true_eq, condK_bool, stepP_some, stepA_some, stepE_some, stepE_pend, grdK_bool, grdK_undf, opPick_dec, opPick_true, opPick_false, bin_eql, bin_neq, bin_lss, bin_leq, bin_gtr, bin_geq, bin_add64, bin_sub64, bin_mul64, pendOk_nil, passed_nil, n_add, n_mul, n_and, bin_and32, bin_shr32, conv_nat, un_not, conv_64, decide_true, decide_false, true_implies, false_implies, forall_const, and_true, true_and, eq_self, ne_eq, ↓reduceIte, implies_true, Int.reduceLT, Int.reduceGT, Int.reduceLE, Int.reduceEq, Int.reduceNeg, and_self, Bool.not_eq_true, end_ret, end_nrm, endK_some, res_nil, res_tmp, res_cell1, res_cellN, resVal_one, resVal_none, resVal_two, Option.map_some, Option.bind_some, opExtract_eq, List.getElem?_cons_zero, List.getElem?_cons_succ, opNil_ptr, fld_ptr, Nat.mul_one, kbb, loadV_box, load1_box, loadN_box, cellsN_some, drop?_zero, drop?_succ, take?_zero, take?_succ, one?_some, store_box, storeC_some, get_eq, get_ne, loadOf_1, loadOf_n, stepL_some, loadK_some, pend_zero, pend_succ, passed_one, passed_more, prevOk_zero, prevOk_nil, prevOk_cons, pendOk_cons, sameLoadK_eq, St.bump_get, bump_getF, St.bump_wm, St.put_wm, St.get_put, Nat.le_add_right, Nat.le_refl, Bool.true_and, Bool.and_true, Bool.and_self, opBuild_eq, opBox_eq, parts_nil, parts_cons, fill_nil, fill_cons, splice_nil, splice_zero, splice_succ, vcells_int, vcells_bool, vcells_ptr, vcells_slice, vcells_map, vcells_agg, one_int, one_bool, one_ptr, one_slice, one_map, List.length_cons, List.length_nil, List.all_cons, List.all_nil, List.append_nil, List.cons_append, List.nil_append, sameK_eq, vsamesF_nil, vsamesF_cons, same_bool, same_int, same_ptr, same_slice, same_map, eq_bool, neq_bool]
          exact ih (i + 1) _ _ _ _ _ _ _ _ (by omega) hinv' (by rw [hpl3, hstep]) hll3 (by omega)
    refine loopK.stepAs c_l20_ChainThins_lp1.eq_1 ?_
    simp (disch := omega) only [hlt, hr.addr, ht, hld, o1, o2, o3, o4, hwle, hwle1, k_skip, k_seq, k_cond, k_block, k_loop, k_range, k_exit, k_scope, k_ret, k_region, c_nil, c_seq, c_blk, c_lp, e_nil, e_seq, e_blk, e_lp, r_nil, r_seq, r_blk, r_lp, o_nil, o_p, o_pg, o_l, o_a, o_c, o_cg, o_store, o_mapU, o_app, o_copy, o_del, evP, evA, ev_tmp, ev_const, ev_func, evArgs_nil, evArgs_cons, evParts_nil, evParts_cons, evOpt_none, evOpt_some, putO_some, putO_none, restrict_cons, restrict_nil, argFr_cons, argFr_nil, upd_app, Nat.reduceAdd, Nat.reduceEqDiff, Nat.zero_add, Nat.add_zero, bump_zero, St.bump_next, St.put_next, decide_eq_true_eq, condK_bool, stepP_some, stepA_some, stepE_some, stepE_pend, grdK_bool, grdK_undf, opPick_dec, opPick_true, opPick_false, bin_eql, bin_neq, bin_lss, bin_leq, bin_gtr, bin_geq, bin_add64, bin_sub64, bin_mul64, pendOk_nil, passed_nil, n_add, n_mul, n_and, bin_and32, bin_shr32, conv_nat, un_not, conv_64, decide_true, decide_false, true_implies, false_implies, forall_const, and_true, true_and, eq_self, ne_eq, ↓reduceIte, implies_true, Int.reduceLT, Int.reduceGT, Int.reduceLE, Int.reduceEq, Int.reduceNeg, and_self, Bool.not_eq_true, end_ret, end_nrm, endK_some, res_nil, res_tmp, res_cell1, res_cellN, resVal_one, resVal_none, resVal_two, Option.map_some, Option.bind_some, opExtract_eq, List.getElem?_cons_zero, List.getElem?_cons_succ, opNil_ptr, fld_ptr, Nat.mul_one, kbb, loadV_box, load1_box, loadN_box, cellsN_some, drop?_zero, drop?_succ, take?_zero, take?_succ, one?_some, store_box, storeC_some, get_eq, get_ne, loadOf_1, loadOf_n, stepL_some, loadK_some, pend_zero, pend_succ, passed_one, passed_more, prevOk_zero, prevOk_nil, prevOk_cons, pendOk_cons, sameLoadK_eq, St.bump_get, bump_getF, St.bump_wm, St.put_wm, St.get_put, Nat.le_add_right, Nat.le_refl, Bool.true_and, Bool.and_true, Bool.and_self, opBuild_eq, opBox_eq, parts_nil, parts_cons, fill_nil, fill_cons, splice_nil, splice_zero, splice_succ, vcells_int, vcells_bool, vcells_ptr, vcells_slice, vcells_map, vcells_agg, one_int, one_bool, one_ptr, one_slice, one_map, List.length_cons, List.length_nil, List.all_cons, List.all_nil, List.append_nil, List.cons_append, List.nil_append, sameK_eq, vsamesF_nil, vsamesF_cons, same_bool, same_int, same_ptr, same_slice, same_map, eq_bool, neq_bool]
    refine callK.ofS hT1 ?_
    by_cases hib : i < bs.length
    · have hlt2 : (i : Int) < bs.length := by omega
      obtain ⟨kk, hk1, hk2⟩ := and_one (bs.getD i 0)
      have hw8 := W8_at hib
      have hw8l := W8_len bs
      have hn : (1 : Int) + (kk : Int) = ((1 + kk : Nat) : Int) := by omega
      simp (disch := omega) only [hrl, hlt2, hrr.addr, ht, hrr.load0, hw8, hk2, hn, m1.one, m2.one, m3.one, m4.one, hwle, hwle1, k_skip, k_seq, k_cond, k_block, k_loop, k_range, k_exit, k_scope, k_ret, k_region, c_nil, c_seq, c_blk, c_lp, e_nil, e_seq, e_blk, e_lp, r_nil, r_seq, r_blk, r_lp, o_nil, o_p, o_pg, o_l, o_a, o_c, o_cg, o_store, o_mapU, o_app, o_copy, o_del, evP, evA, ev_tmp, ev_const, ev_func, evArgs_nil, evArgs_cons, evParts_nil, evParts_cons, evOpt_none, evOpt_some, putO_some, putO_none, restrict_cons, restrict_nil, argFr_cons, argFr_nil, upd_app, Nat.reduceAdd, Nat.reduceEqDiff, Nat.zero_add, Nat.add_zero, bump_zero, St.bump_next, St.put_next, decide_eq_true_eq, condK_bool, stepP_some, stepA_some, stepE_some, stepE_pend, grdK_bool, grdK_undf, opPick_dec, opPick_true, opPick_false, bin_eql, bin_neq, bin_lss, bin_leq, bin_gtr, bin_geq, bin_add64, bin_sub64, bin_mul64, pendOk_nil, passed_nil, n_add, n_mul, n_and, bin_and32, bin_shr32, conv_nat, un_not, conv_64, decide_true, decide_false, true_implies, false_implies, forall_const, and_true, true_and, eq_self, ne_eq, ↓reduceIte, implies_true, Int.reduceLT, Int.reduceGT, Int.reduceLE, Int.reduceEq, Int.reduceNeg, and_self, Bool.not_eq_true, end_ret, end_nrm, endK_some, res_nil, res_tmp, res_cell1, res_cellN, resVal_one, resVal_none, resVal_two, Option.map_some, Option.bind_some, opExtract_eq, List.getElem?_cons_zero, List.getElem?_cons_succ, opNil_ptr, fld_ptr, Nat.mul_one, kbb, loadV_box, load1_box, loadN_box, cellsN_some, drop?_zero, drop?_succ, take?_zero, take?_succ, one?_some, store_box, storeC_some, get_eq, get_ne, loadOf_1, loadOf_n, stepL_some, loadK_some, pend_zero, pend_succ, passed_one, passed_more, prevOk_zero, prevOk_nil, prevOk_cons, pendOk_cons, sameLoadK_eq, St.bump_get, bump_getF, St.bump_wm, St.put_wm, St.get_put, Nat.le_add_right, Nat.le_refl, Bool.true_and, Bool.and_true, Bool.and_self, opBuild_eq, opBox_eq, parts_nil, parts_cons, fill_nil, fill_cons, splice_nil, splice_zero, splice_succ, vcells_int, vcells_bool, vcells_ptr, vcells_slice, vcells_map, vcells_agg, one_int, one_bool, one_ptr, one_slice, one_map, List.length_cons, List.length_nil, List.all_cons, List.all_nil, List.append_nil, List.cons_append, List.nil_append, sameK_eq, vsamesF_nil, vsamesF_cons, same_bool, same_int, same_ptr, same_slice, same_map, eq_bool, neq_bool]
      exact after (1 + kk) (by omega) (by omega) _
    · have hlt2 : ¬ (i : Int) < bs.length := by omega
      simp (disch := omega) only [hrl, hlt2, m1.one, m2.one, m3.one, m4.one, hwle, hwle1, k_skip, k_seq, k_cond, k_block, k_loop, k_range, k_exit, k_scope, k_ret, k_region, c_nil, c_seq, c_blk, c_lp, e_nil, e_seq, e_blk, e_lp, r_nil, r_seq, r_blk, r_lp, o_nil, o_p, o_pg, o_l, o_a, o_c, o_cg, o_store, o_mapU, o_app, o_copy, o_del, evP, evA, ev_tmp, ev_const, ev_func, evArgs_nil, evArgs_cons, evParts_nil, evParts_cons, evOpt_none, evOpt_some, putO_some, putO_none, restrict_cons, restrict_nil, argFr_cons, argFr_nil, upd_app, Nat.reduceAdd, Nat.reduceEqDiff, Nat.zero_add, Nat.add_zero, bump_zero, St.bump_next, St.put_next, decide_eq_true_eq, condK_bool, stepP_some, stepA_some, stepE_some, stepE_pend, grdK_bool, grdK_undf, opPick_dec, opPick_true, opPick_false, bin_eql, bin_neq, bin_lss, bin_leq, bin_gtr, bin_geq, bin_add64, bin_sub64, bin_mul64, pendOk_nil, passed_nil, n_add, n_mul, n_and, bin_and32, bin_shr32, conv_nat, un_not, conv_64, decide_true, decide_false, true_implies, false_implies, forall_const, and_true, true_and, eq_self, ne_eq, ↓reduceIte, implies_true, Int.reduceLT, Int.reduceGT, Int.reduceLE, Int.reduceEq, Int.reduceNeg, and_self, Bool.not_eq_true, end_ret, end_nrm, endK_some, res_nil, res_tmp, res_cell1, res_cellN, resVal_one, resVal_none, resVal_two, Option.map_some, Option.bind_some, opExtract_eq, List.getElem?_cons_zero, List.getElem?_cons_succ, opNil_ptr, fld_ptr, Nat.mul_one, kbb, loadV_box, load1_box, loadN_box, cellsN_some, drop?_zero, drop?_succ, take?_zero, take?_succ, one?_some, store_box, storeC_some, get_eq, get_ne, loadOf_1, loadOf_n, stepL_some, loadK_some, pend_zero, pend_succ, passed_one, passed_more, prevOk_zero, prevOk_nil, prevOk_cons, pendOk_cons, sameLoadK_eq, St.bump_get, bump_getF, St.bump_wm, St.put_wm, St.get_put, Nat.le_add_right, Nat.le_refl, Bool.true_and, Bool.and_true, Bool.and_self, opBuild_eq, opBox_eq, parts_nil, parts_cons, fill_nil, fill_cons, splice_nil, splice_zero, splice_succ, vcells_int, vcells_bool, vcells_ptr, vcells_slice, vcells_map, vcells_agg, one_int, one_bool, one_ptr, one_slice, one_map, List.length_cons, List.length_nil, List.all_cons, List.all_nil, List.append_nil, List.cons_append, List.nil_append, sameK_eq, vsamesF_nil, vsamesF_cons, same_bool, same_int, same_ptr, same_slice, same_map, eq_bool, neq_bool]
      exact after 1 (by omega) (by omega) _
end Go.Iso

namespace Go.Iso
open Go.Ev
variable {prog : Nat → Option CDecl} [A : Arith prog]

theorem p_law : prog n_l20_ChainThins = some (.fn c_l20_ChainThins) := A.p_law

/-- What the law wants of a closed line. -/
def wantL (c : Bool) (ws : List P) : List P :=
  let w1 := if c = true ∧ 1 < ws.length ∧ ws.getD 0 (0, 0) = ws.getD (ws.length - 1) (0, 0) then ws.take (ws.length - 1) else ws
  if c = true ∧ 1 < w1.length then w1 ++ w1.take 1 else w1
theorem want_close (c : Bool) (ws : List P) : wantL c ws = closeL c ws := by
  unfold wantL closeL
  cases c with
  | false => simp
  | true =>
    by_cases h : 1 < ws.length
    · have h0 : ws ≠ [] := by rintro rfl; simp at h
      have hh : ws.head? = some (ws.getD 0 (0, 0)) := by
        cases ws with
        | nil => exact absurd rfl h0
        | cons x r => rfl
      by_cases he : ws.getD 0 (0, 0) = ws.getD (ws.length - 1) (0, 0)
      · have e1 : ws.head? = ws.getLast? := by rw [hh, getLast_at h0, he]
        rw [if_pos (⟨rfl, h, he⟩ : true = true ∧ 1 < ws.length ∧ _), if_pos (⟨rfl, h⟩ : true = true ∧ 1 < ws.length), if_pos e1, List.dropLast_eq_take]
        by_cases h2 : 1 < (ws.take (ws.length - 1)).length
        · rw [if_pos (⟨rfl, h2⟩ : true = true ∧ _), if_pos h2, List.take_take, show min 1 (ws.length - 1) = 1 by omega]
        · rw [if_neg (by rintro ⟨_, h3⟩; exact h2 h3), if_neg h2]
      · have e1 : ¬ ws.head? = ws.getLast? := by
          rw [hh, getLast_at h0]
          exact fun h => he (Option.some.inj h)
        have e2 : (if true = true ∧ 1 < ws.length ∧ ws.getD 0 (0, 0) = ws.getD (ws.length - 1) (0, 0) then ws.take (ws.length - 1) else ws) = ws := if_neg fun h3 => he h3.2.2
        rw [e2, if_pos (⟨rfl, h⟩ : true = true ∧ 1 < ws.length), if_pos (⟨rfl, h⟩ : true = true ∧ 1 < ws.length), if_neg e1, if_pos h]
    · have e2 : (if true = true ∧ 1 < ws.length ∧ ws.getD 0 (0, 0) = ws.getD (ws.length - 1) (0, 0) then ws.take (ws.length - 1) else ws) = ws := if_neg fun h3 => h h3.2.1
      rw [e2, if_neg (fun h3 => h h3.2), if_neg (fun h3 => h h3.2)]

theorem cmp_loop {gv o : Value} {ges es : List (List Value)} {ws : List P} {s : St} (hf : Fresh s) (hg : Row s.get 6 gv ges) (ho : Row s.get 6 o es) (pg : Pts ges ws) (po : Pts es ws) (hbig : ws.length ≤ 1000) {k : List KItem} {Q : Ex → Fr → St → Prop}
    (hexit : ∀ G, contK prog G s k Q) :
    ∀ m i, i + m = ws.length → loopK prog [8, 13, 124, 125] c_l20_ChainThins_lp2 (upd (upd (upd (upd (fun _ => unk) 125 (i64 i)) 124 (i64 ws.length)) 13 gv) 8 o) s (.blk 4 :: k) Q := by
  intro m
  induction m with
  | zero =>
    intro i hi
    have hi : i = ws.length := by omega
    subst hi
    have hlt : ¬ (ws.length : Int) < ws.length := by omega
    refine loopK.stepAs c_l20_ChainThins_lp2.eq_1 ?_
    simp only [hlt, k_skip, k_seq, k_cond, k_block, k_loop, k_range, k_exit, k_scope, k_ret, k_region, c_nil, c_seq, c_blk, c_lp, e_nil, e_seq, e_blk, e_lp, r_nil, r_seq, r_blk, r_lp, o_nil, o_p, o_pg, o_l, o_a, o_c, o_cg, o_store, o_mapU, o_app, o_copy, o_del, evP, evA, ev_tmp, ev_const, ev_func, evArgs_nil, evArgs_cons, evParts_nil, evParts_cons, evOpt_none, evOpt_some, putO_some, putO_none, restrict_cons, restrict_nil, argFr_cons, argFr_nil, upd_app, Nat.reduceAdd, Nat.reduceEqDiff, Nat.zero_add, Nat.add_zero, bump_zero, St.bump_next, St.put_next, decide_eq_true_eq, condK_bool, stepP_some, stepA_some, stepE_some, stepE_pend, grdK_bool, grdK_undf, opPick_dec, opPick_true, opPick_false, bin_eql, bin_neq, bin_lss, bin_leq, bin_gtr, bin_geq, bin_add64, bin_sub64, bin_mul64, pendOk_nil, passed_nil, n_add, n_mul, n_and, bin_and32, bin_shr32, conv_nat, un_not, conv_64, decide_true, decide_false, true_implies, false_implies, forall_const, and_true, true_and, eq_self, ne_eq, ↓reduceIte, implies_true, Int.reduceLT, Int.reduceGT, Int.reduceLE, Int.reduceEq, Int.reduceNeg, and_self, Bool.not_eq_true, end_ret, end_nrm, endK_some, res_nil, res_tmp, res_cell1, res_cellN, resVal_one, resVal_none, resVal_two, Option.map_some, Option.bind_some, opExtract_eq, List.getElem?_cons_zero, List.getElem?_cons_succ, opNil_ptr, fld_ptr, Nat.mul_one, kbb]
    exact hexit _
  | succ m ih =>
    intro i hi
    have hlt : (i : Int) < ws.length := by omega
    have hi1 : (i : Int) + 1 = (i + 1 : Nat) := by omega
    have ht : (i : Int).toNat = i := by omega
    have l1 := pg.len
    have l2 := po.len
    have hs : Ss (ws.getD i (0, 0)) := pg.sz _ (by
      have : ws.getD i (0, 0) = ws[i]'(by omega) := by simp [List.getD, show i < ws.length by omega]
      rw [this]; exact List.getElem_mem _)
    have hsame := sSame_ret hf (pg.is i (by omega)) (po.is i (by omega)) hs hs
    rw [decide_eq_true rfl] at hsame
    have hld1 := hg.loadN0 (i := i) (by omega)
    have hld2 := ho.loadN0 (i := i) (by omega)
    refine loopK.stepAs c_l20_ChainThins_lp2.eq_1 ?_
    simp (disch := omega) only [hlt, hg.addr, ho.addr, ht, hld1, hld2, k_skip, k_seq, k_cond, k_block, k_loop, k_range, k_exit, k_scope, k_ret, k_region, c_nil, c_seq, c_blk, c_lp, e_nil, e_seq, e_blk, e_lp, r_nil, r_seq, r_blk, r_lp, o_nil, o_p, o_pg, o_l, o_a, o_c, o_cg, o_store, o_mapU, o_app, o_copy, o_del, evP, evA, ev_tmp, ev_const, ev_func, evArgs_nil, evArgs_cons, evParts_nil, evParts_cons, evOpt_none, evOpt_some, putO_some, putO_none, restrict_cons, restrict_nil, argFr_cons, argFr_nil, upd_app, Nat.reduceAdd, Nat.reduceEqDiff, Nat.zero_add, Nat.add_zero, bump_zero, St.bump_next, St.put_next, decide_eq_true_eq, condK_bool, stepP_some, stepA_some, stepE_some, stepE_pend, grdK_bool, grdK_undf, opPick_dec, opPick_true, opPick_false, bin_eql, bin_neq, bin_lss, bin_leq, bin_gtr, bin_geq, bin_add64, bin_sub64, bin_mul64, pendOk_nil, passed_nil, n_add, n_mul, n_and, bin_and32, bin_shr32, conv_nat, un_not, conv_64, decide_true, decide_false, true_implies, false_implies, forall_const, and_true, true_and, eq_self, ne_eq, ↓reduceIte, implies_true, Int.reduceLT, Int.reduceGT, Int.reduceLE, Int.reduceEq, Int.reduceNeg, and_self, Bool.not_eq_true, end_ret, end_nrm, endK_some, res_nil, res_tmp, res_cell1, res_cellN, resVal_one, resVal_none, resVal_two, Option.map_some, Option.bind_some, opExtract_eq, List.getElem?_cons_zero, List.getElem?_cons_succ, opNil_ptr, fld_ptr, Nat.mul_one, kbb, loadV_box, load1_box, loadN_box, cellsN_some, drop?_zero, drop?_succ, take?_zero, take?_succ, one?_some, store_box, storeC_some, get_eq, get_ne, loadOf_1, loadOf_n, stepL_some, loadK_some, pend_zero, pend_succ, passed_one, passed_more, prevOk_zero, prevOk_nil, prevOk_cons, pendOk_cons, sameLoadK_eq, St.bump_get, bump_getF, St.bump_wm, St.put_wm, St.get_put, Nat.le_add_right, Nat.le_refl, Bool.true_and, Bool.and_true, Bool.and_self, opBuild_eq, opBox_eq, parts_nil, parts_cons, fill_nil, fill_cons, splice_nil, splice_zero, splice_succ, vcells_int, vcells_bool, vcells_ptr, vcells_slice, vcells_map, vcells_agg, one_int, one_bool, one_ptr, one_slice, one_map, List.length_cons, List.length_nil, List.all_cons, List.all_nil, List.append_nil, List.cons_append, List.nil_append, sameK_eq, vsamesF_nil, vsamesF_cons, same_bool, same_int, same_ptr, same_slice, same_map, eq_bool, neq_bool]
    refine callK.ofS hsame ?_
    simp (disch := omega) only [hi1, k_skip, k_seq, k_cond, k_block, k_loop, k_range, k_exit, k_scope, k_ret, k_region, c_nil, c_seq, c_blk, c_lp, e_nil, e_seq, e_blk, e_lp, r_nil, r_seq, r_blk, r_lp, o_nil, o_p, o_pg, o_l, o_a, o_c, o_cg, o_store, o_mapU, o_app, o_copy, o_del, evP, evA, ev_tmp, ev_const, ev_func, evArgs_nil, evArgs_cons, evParts_nil, evParts_cons, evOpt_none, evOpt_some, putO_some, putO_none, restrict_cons, restrict_nil, argFr_cons, argFr_nil, upd_app, Nat.reduceAdd, Nat.reduceEqDiff, Nat.zero_add, Nat.add_zero, bump_zero, St.bump_next, St.put_next, decide_eq_true_eq, condK_bool, stepP_some, stepA_some, stepE_some, stepE_pend, grdK_bool, grdK_undf, opPick_dec, opPick_true, opPick_false, bin_eql, bin_neq, bin_lss, bin_leq, bin_gtr, bin_geq, bin_add64, bin_sub64, bin_mul64, pendOk_nil, passed_nil, n_add, n_mul, n_and, bin_and32, bin_shr32, conv_nat, un_not, conv_64, decide_true, decide_false, true_implies, false_implies, forall_const, and_true, true_and, eq_self, ne_eq, ↓reduceIte, implies_true, Int.reduceLT, Int.reduceGT, Int.reduceLE, Int.reduceEq, Int.reduceNeg, and_self, Bool.not_eq_true, end_ret, end_nrm, endK_some, res_nil, res_tmp, res_cell1, res_cellN, resVal_one, resVal_none, resVal_two, Option.map_some, Option.bind_some, opExtract_eq, List.getElem?_cons_zero, List.getElem?_cons_succ, opNil_ptr, fld_ptr, Nat.mul_one, kbb, loadV_box, load1_box, loadN_box, cellsN_some, drop?_zero, drop?_succ, take?_zero, take?_succ, one?_some, store_box, storeC_some, get_eq, get_ne, loadOf_1, loadOf_n, stepL_some, loadK_some, pend_zero, pend_succ, passed_one, passed_more, prevOk_zero, prevOk_nil, prevOk_cons, pendOk_cons, sameLoadK_eq, St.bump_get, bump_getF, St.bump_wm, St.put_wm, St.get_put, Nat.le_add_right, Nat.le_refl, Bool.true_and, Bool.and_true, Bool.and_self, opBuild_eq, opBox_eq, parts_nil, parts_cons, fill_nil, fill_cons, splice_nil, splice_zero, splice_succ, vcells_int, vcells_bool, vcells_ptr, vcells_slice, vcells_map, vcells_agg, one_int, one_bool, one_ptr, one_slice, one_map, List.length_cons, List.length_nil, List.all_cons, List.all_nil, List.append_nil, List.cons_append, List.nil_append, sameK_eq, vsamesF_nil, vsamesF_cons, same_bool, same_int, same_ptr, same_slice, same_map, eq_bool, neq_bool]
    exact ih (i + 1) (by omega)

theorem law_r1 {s0 s : St} {b0 : Nat} {c : Bool} {ev pv o : Value} {ees pes es : List (List Value)} {pl ws : List P} (h : LInv s0 b0 c s ev pv o ees pes es pl ws) (hpl : pl.length ≤ 16) (hw : ws = thinL c pl) (hws : ws.length ≤ 100) (G : Fr) :
    wpK prog c_l20_ChainThins_r1 (upd (upd G 8 o) 7 (.pointer (some ⟨b0, 0, none⟩))) s [] (wpEnd [.tmp 6] fun v _ => v = .bool true) := by
  have hbox := h.box
  have hev := h.ownE.oneV
  have hpv := h.ownP.oneV
  obtain ⟨gv, hg1, hg2⟩ := Thin_ret h.fresh (c := c) (ev := ev) (h.ownP.row.rowL h.fresh) h.ptsP (by omega) hev hpv
  rw [← hw] at hg2
  obtain ⟨ges, him, hpg⟩ := hg2.is
  have hgr := him s.get
  have hgl := hgr.len
  rw [hpg.len] at hgl
  have ho := h.ownO.row
  have hol := ho.len
  rw [h.ptsO.len] at hol
  have hne : ((ws.length : Int) ≠ ws.length) = False := eq_false (by simp)
  simp (disch := omega) only [c_l20_ChainThins_r1, hbox, hev, hpv, k_skip, k_seq, k_cond, k_block, k_loop, k_range, k_exit, k_scope, k_ret, k_region, c_nil, c_seq, c_blk, c_lp, e_nil, e_seq, e_blk, e_lp, r_nil, r_seq, r_blk, r_lp, o_nil, o_p, o_pg, o_l, o_a, o_c, o_cg, o_store, o_mapU, o_app, o_copy, o_del, evP, evA, ev_tmp, ev_const, ev_func, evArgs_nil, evArgs_cons, evParts_nil, evParts_cons, evOpt_none, evOpt_some, putO_some, putO_none, restrict_cons, restrict_nil, argFr_cons, argFr_nil, upd_app, Nat.reduceAdd, Nat.reduceEqDiff, Nat.zero_add, Nat.add_zero, bump_zero, St.bump_next, St.put_next, decide_eq_true_eq, condK_bool, stepP_some, stepA_some, stepE_some, stepE_pend, grdK_bool, grdK_undf, opPick_dec, opPick_true, opPick_false, bin_eql, bin_neq, bin_lss, bin_leq, bin_gtr, bin_geq, bin_add64, bin_sub64, bin_mul64, pendOk_nil, passed_nil, n_add, n_mul, n_and, bin_and32, bin_shr32, conv_nat, un_not, conv_64, decide_true, decide_false, true_implies, false_implies, forall_const, and_true, true_and, eq_self, ne_eq, ↓reduceIte, implies_true, Int.reduceLT, Int.reduceGT, Int.reduceLE, Int.reduceEq, Int.reduceNeg, and_self, Bool.not_eq_true, end_ret, end_nrm, endK_some, res_nil, res_tmp, res_cell1, res_cellN, resVal_one, resVal_none, resVal_two, Option.map_some, Option.bind_some, opExtract_eq, List.getElem?_cons_zero, List.getElem?_cons_succ, opNil_ptr, fld_ptr, Nat.mul_one, kbb, loadV_box, load1_box, loadN_box, cellsN_some, drop?_zero, drop?_succ, take?_zero, take?_succ, one?_some, store_box, storeC_some, get_eq, get_ne, loadOf_1, loadOf_n, stepL_some, loadK_some, pend_zero, pend_succ, passed_one, passed_more, prevOk_zero, prevOk_nil, prevOk_cons, pendOk_cons, sameLoadK_eq, St.bump_get, bump_getF, St.bump_wm, St.put_wm, St.get_put, Nat.le_add_right, Nat.le_refl, Bool.true_and, Bool.and_true, Bool.and_self, opBuild_eq, opBox_eq, parts_nil, parts_cons, fill_nil, fill_cons, splice_nil, splice_zero, splice_succ, vcells_int, vcells_bool, vcells_ptr, vcells_slice, vcells_map, vcells_agg, one_int, one_bool, one_ptr, one_slice, one_map, List.length_cons, List.length_nil, List.all_cons, List.all_nil, List.append_nil, List.cons_append, List.nil_append, sameK_eq, vsamesF_nil, vsamesF_cons, same_bool, same_int, same_ptr, same_slice, same_map, eq_bool, neq_bool]
  refine callK.ofS hg1 ?_
  simp (disch := omega) only [hgl, hol, hne, k_skip, k_seq, k_cond, k_block, k_loop, k_range, k_exit, k_scope, k_ret, k_region, c_nil, c_seq, c_blk, c_lp, e_nil, e_seq, e_blk, e_lp, r_nil, r_seq, r_blk, r_lp, o_nil, o_p, o_pg, o_l, o_a, o_c, o_cg, o_store, o_mapU, o_app, o_copy, o_del, evP, evA, ev_tmp, ev_const, ev_func, evArgs_nil, evArgs_cons, evParts_nil, evParts_cons, evOpt_none, evOpt_some, putO_some, putO_none, restrict_cons, restrict_nil, argFr_cons, argFr_nil, upd_app, Nat.reduceAdd, Nat.reduceEqDiff, Nat.zero_add, Nat.add_zero, bump_zero, St.bump_next, St.put_next, decide_eq_true_eq, condK_bool, stepP_some, stepA_some, stepE_some, stepE_pend, grdK_bool, grdK_undf, opPick_dec, opPick_true, opPick_false, bin_eql, bin_neq, bin_lss, bin_leq, bin_gtr, bin_geq, bin_add64, bin_sub64, bin_mul64, pendOk_nil, passed_nil, n_add, n_mul, n_and, bin_and32, bin_shr32, conv_nat, un_not, conv_64, decide_true, decide_false, true_implies, false_implies, forall_const, and_true, true_and, eq_self, ne_eq, ↓reduceIte, implies_true, Int.reduceLT, Int.reduceGT, Int.reduceLE, Int.reduceEq, Int.reduceNeg, and_self, Bool.not_eq_true, end_ret, end_nrm, endK_some, res_nil, res_tmp, res_cell1, res_cellN, resVal_one, resVal_none, resVal_two, Option.map_some, Option.bind_some, opExtract_eq, List.getElem?_cons_zero, List.getElem?_cons_succ, opNil_ptr, fld_ptr, Nat.mul_one, kbb, loadV_box, load1_box, loadN_box, cellsN_some, drop?_zero, drop?_succ, take?_zero, take?_succ, one?_some, store_box, storeC_some, get_eq, get_ne, loadOf_1, loadOf_n, stepL_some, loadK_some, pend_zero, pend_succ, passed_one, passed_more, prevOk_zero, prevOk_nil, prevOk_cons, pendOk_cons, sameLoadK_eq, St.bump_get, bump_getF, St.bump_wm, St.put_wm, St.get_put, Nat.le_add_right, Nat.le_refl, Bool.true_and, Bool.and_true, Bool.and_self, opBuild_eq, opBox_eq, parts_nil, parts_cons, fill_nil, fill_cons, splice_nil, splice_zero, splice_succ, vcells_int, vcells_bool, vcells_ptr, vcells_slice, vcells_map, vcells_agg, one_int, one_bool, one_ptr, one_slice, one_map, List.length_cons, List.length_nil, List.all_cons, List.all_nil, List.append_nil, List.cons_append, List.nil_append, sameK_eq, vsamesF_nil, vsamesF_cons, same_bool, same_int, same_ptr, same_slice, same_map, eq_bool, neq_bool]
  refine cmp_loop h.fresh hgr ho hpg h.ptsO (by omega) ?_ ws.length 0 (by omega)
  intro G2
  simp (disch := omega) only [k_skip, k_seq, k_cond, k_block, k_loop, k_range, k_exit, k_scope, k_ret, k_region, c_nil, c_seq, c_blk, c_lp, e_nil, e_seq, e_blk, e_lp, r_nil, r_seq, r_blk, r_lp, o_nil, o_p, o_pg, o_l, o_a, o_c, o_cg, o_store, o_mapU, o_app, o_copy, o_del, evP, evA, ev_tmp, ev_const, ev_func, evArgs_nil, evArgs_cons, evParts_nil, evParts_cons, evOpt_none, evOpt_some, putO_some, putO_none, restrict_cons, restrict_nil, argFr_cons, argFr_nil, upd_app, Nat.reduceAdd, Nat.reduceEqDiff, Nat.zero_add, Nat.add_zero, bump_zero, St.bump_next, St.put_next, decide_eq_true_eq, condK_bool, stepP_some, stepA_some, stepE_some, stepE_pend, grdK_bool, grdK_undf, opPick_dec, opPick_true, opPick_false, bin_eql, bin_neq, bin_lss, bin_leq, bin_gtr, bin_geq, bin_add64, bin_sub64, bin_mul64, pendOk_nil, passed_nil, n_add, n_mul, n_and, bin_and32, bin_shr32, conv_nat, un_not, conv_64, decide_true, decide_false, true_implies, false_implies, forall_const, and_true, true_and, eq_self, ne_eq, ↓reduceIte, implies_true, Int.reduceLT, Int.reduceGT, Int.reduceLE, Int.reduceEq, Int.reduceNeg, and_self, Bool.not_eq_true, end_ret, end_nrm, endK_some, res_nil, res_tmp, res_cell1, res_cellN, resVal_one, resVal_none, resVal_two, Option.map_some, Option.bind_some, opExtract_eq, List.getElem?_cons_zero, List.getElem?_cons_succ, opNil_ptr, fld_ptr, Nat.mul_one, kbb, loadV_box, load1_box, loadN_box, cellsN_some, drop?_zero, drop?_succ, take?_zero, take?_succ, one?_some, store_box, storeC_some, get_eq, get_ne, loadOf_1, loadOf_n, stepL_some, loadK_some, pend_zero, pend_succ, passed_one, passed_more, prevOk_zero, prevOk_nil, prevOk_cons, pendOk_cons, sameLoadK_eq, St.bump_get, bump_getF, St.bump_wm, St.put_wm, St.get_put, Nat.le_add_right, Nat.le_refl, Bool.true_and, Bool.and_true, Bool.and_self, opBuild_eq, opBox_eq, parts_nil, parts_cons, fill_nil, fill_cons, splice_nil, splice_zero, splice_succ, vcells_int, vcells_bool, vcells_ptr, vcells_slice, vcells_map, vcells_agg, one_int, one_bool, one_ptr, one_slice, one_map, List.length_cons, List.length_nil, List.all_cons, List.all_nil, List.append_nil, List.cons_append, List.nil_append, sameK_eq, vsamesF_nil, vsamesF_cons, same_bool, same_int, same_ptr, same_slice, same_map, eq_bool, neq_bool]

theorem law_r2 {s0 s : St} {b0 : Nat} {c : Bool} {ev pv o : Value} {ees pes es : List (List Value)} {pl ws : List P} (h : LInv s0 b0 c s ev pv o ees pes es pl ws) (hpl : pl.length ≤ 16) (hw : (if c = true ∧ 1 < ws.length then ws ++ ws.take 1 else ws) = thinL c pl) (hws : ws.length ≤ 50) (G : Fr) :
    wpK prog c_l20_ChainThins_r2 (upd (upd (upd G 8 o) 7 (.pointer (some ⟨b0, 0, none⟩))) 2 (.bool c)) s [] (wpEnd [.tmp 6] fun v _ => v = .bool true) := by
  have ho := h.ownO.row
  have hol := ho.len
  have hlo := h.ptsO.len
  rw [hlo] at hol
  have hold := h.old
  cases c with
  | false =>
    rw [if_neg (by rintro ⟨h, _⟩; cases h)] at hw
    simp (disch := omega) only [c_l20_ChainThins_r2, hol, k_skip, k_seq, k_cond, k_block, k_loop, k_range, k_exit, k_scope, k_ret, k_region, c_nil, c_seq, c_blk, c_lp, e_nil, e_seq, e_blk, e_lp, r_nil, r_seq, r_blk, r_lp, o_nil, o_p, o_pg, o_l, o_a, o_c, o_cg, o_store, o_mapU, o_app, o_copy, o_del, evP, evA, ev_tmp, ev_const, ev_func, evArgs_nil, evArgs_cons, evParts_nil, evParts_cons, evOpt_none, evOpt_some, putO_some, putO_none, restrict_cons, restrict_nil, argFr_cons, argFr_nil, upd_app, Nat.reduceAdd, Nat.reduceEqDiff, Nat.zero_add, Nat.add_zero, bump_zero, St.bump_next, St.put_next, decide_eq_true_eq, condK_bool, stepP_some, stepA_some, stepE_some, stepE_pend, grdK_bool, grdK_undf, opPick_dec, opPick_true, opPick_false, bin_eql, bin_neq, bin_lss, bin_leq, bin_gtr, bin_geq, bin_add64, bin_sub64, bin_mul64, pendOk_nil, passed_nil, n_add, n_mul, n_and, bin_and32, bin_shr32, conv_nat, un_not, conv_64, decide_true, decide_false, true_implies, false_implies, forall_const, and_true, true_and, eq_self, ne_eq, ↓reduceIte, implies_true, Int.reduceLT, Int.reduceGT, Int.reduceLE, Int.reduceEq, Int.reduceNeg, and_self, Bool.not_eq_true, end_ret, end_nrm, endK_some, res_nil, res_tmp, res_cell1, res_cellN, resVal_one, resVal_none, resVal_two, Option.map_some, Option.bind_some, opExtract_eq, List.getElem?_cons_zero, List.getElem?_cons_succ, opNil_ptr, fld_ptr, Nat.mul_one, kbb, loadV_box, load1_box, loadN_box, cellsN_some, drop?_zero, drop?_succ, take?_zero, take?_succ, one?_some, store_box, storeC_some, get_eq, get_ne, loadOf_1, loadOf_n, stepL_some, loadK_some, pend_zero, pend_succ, passed_one, passed_more, prevOk_zero, prevOk_nil, prevOk_cons, pendOk_cons, sameLoadK_eq, St.bump_get, bump_getF, St.bump_wm, St.put_wm, St.get_put, Nat.le_add_right, Nat.le_refl, Bool.true_and, Bool.and_true, Bool.and_self, opBuild_eq, opBox_eq, parts_nil, parts_cons, fill_nil, fill_cons, splice_nil, splice_zero, splice_succ, vcells_int, vcells_bool, vcells_ptr, vcells_slice, vcells_map, vcells_agg, one_int, one_bool, one_ptr, one_slice, one_map, List.length_cons, List.length_nil, List.all_cons, List.all_nil, List.append_nil, List.cons_append, List.nil_append, sameK_eq, vsamesF_nil, vsamesF_cons, same_bool, same_int, same_ptr, same_slice, same_map, eq_bool, neq_bool]
    exact law_r1 h hpl hw (by omega) _
  | true =>
    by_cases h1 : 1 < ws.length
    · have hd : ((ws.length : Int) > 1) = True := eq_true (by omega)
      have ht0 : (0 : Int).toNat = 0 := rfl
      have hp := h.ptsO.is 0 (by omega)
      have hsz : Ss (ws.getD 0 (0, 0)) := h.ptsO.sz _ (by
        have : ws.getD 0 (0, 0) = ws[0]'(by omega) := by simp [List.getD, show 0 < ws.length by omega]
        rw [this]; exact List.getElem_mem _)
      have htk : ws.take 1 = [ws.getD 0 (0, 0)] := by
        cases ws with
        | nil => simp at h1
        | cons x r => simp [List.getD]
      have hld := ho.loadN0 (i := 0) (by omega)
      rw [if_pos ⟨rfl, h1⟩, htk] at hw
      generalize ws.getD 0 (0, 0) = p at *
      obtain ⟨n, d, n2, d2, hE, m1, m2, m3, m4⟩ := hp.is
      have hE : es.getD 0 [] = [.bool (decide (p.1.num < 0)), n, d, .bool (decide (p.2.num < 0)), n2, d2] := by
        injection hE with hE
        injection hE
      rw [hE] at hp hld
      have hfr := (h.fresh.bump 1).put (b := s.next) (o := .cells false [.bool (decide (p.1.num < 0)), n, d, .bool (decide (p.2.num < 0)), n2, d2]) (by simp)
      have hinv2 := h.mid hfr (by simp) rfl (fun j hj => by rw [get_ne (by omega)]; rfl)
      obtain ⟨v', s', ha, hinv'⟩ := hinv2.appO hp hsz (by omega) (base := s.next) (by simp) (get_eq _ _ _) hold
      simp (disch := omega) only [c_l20_ChainThins_r2, hol, hd, ho.addr, ht0, hld, ha, opBuildSlice_eq, reps_succ, reps_zero, m1.one, m2.one, m3.one, m4.one, k_skip, k_seq, k_cond, k_block, k_loop, k_range, k_exit, k_scope, k_ret, k_region, c_nil, c_seq, c_blk, c_lp, e_nil, e_seq, e_blk, e_lp, r_nil, r_seq, r_blk, r_lp, o_nil, o_p, o_pg, o_l, o_a, o_c, o_cg, o_store, o_mapU, o_app, o_copy, o_del, evP, evA, ev_tmp, ev_const, ev_func, evArgs_nil, evArgs_cons, evParts_nil, evParts_cons, evOpt_none, evOpt_some, putO_some, putO_none, restrict_cons, restrict_nil, argFr_cons, argFr_nil, upd_app, Nat.reduceAdd, Nat.reduceEqDiff, Nat.zero_add, Nat.add_zero, bump_zero, St.bump_next, St.put_next, decide_eq_true_eq, condK_bool, stepP_some, stepA_some, stepE_some, stepE_pend, grdK_bool, grdK_undf, opPick_dec, opPick_true, opPick_false, bin_eql, bin_neq, bin_lss, bin_leq, bin_gtr, bin_geq, bin_add64, bin_sub64, bin_mul64, pendOk_nil, passed_nil, n_add, n_mul, n_and, bin_and32, bin_shr32, conv_nat, un_not, conv_64, decide_true, decide_false, true_implies, false_implies, forall_const, and_true, true_and, eq_self, ne_eq, ↓reduceIte, implies_true, Int.reduceLT, Int.reduceGT, Int.reduceLE, Int.reduceEq, Int.reduceNeg, and_self, Bool.not_eq_true, end_ret, end_nrm, endK_some, res_nil, res_tmp, res_cell1, res_cellN, resVal_one, resVal_none, resVal_two, Option.map_some, Option.bind_some, opExtract_eq, List.getElem?_cons_zero, List.getElem?_cons_succ, opNil_ptr, fld_ptr, Nat.mul_one, kbb, loadV_box, load1_box, loadN_box, cellsN_some, drop?_zero, drop?_succ, take?_zero, take?_succ, one?_some, store_box, storeC_some, get_eq, get_ne, loadOf_1, loadOf_n, stepL_some, loadK_some, pend_zero, pend_succ, passed_one, passed_more, prevOk_zero, prevOk_nil, prevOk_cons, pendOk_cons, sameLoadK_eq, St.bump_get, bump_getF, St.bump_wm, St.put_wm, St.get_put, Nat.le_add_right, Nat.le_refl, Bool.true_and, Bool.and_true, Bool.and_self, opBuild_eq, opBox_eq, parts_nil, parts_cons, fill_nil, fill_cons, splice_nil, splice_zero, splice_succ, vcells_int, vcells_bool, vcells_ptr, vcells_slice, vcells_map, vcells_agg, one_int, one_bool, one_ptr, one_slice, one_map, List.length_cons, List.length_nil, List.all_cons, List.all_nil, List.append_nil, List.cons_append, List.nil_append, sameK_eq, vsamesF_nil, vsamesF_cons, same_bool, same_int, same_ptr, same_slice, same_map, eq_bool, neq_bool]
      exact law_r1 hinv' hpl hw (by simp; omega) _
    · have hd : ((ws.length : Int) > 1) = False := eq_false (by omega)
      rw [if_neg (by rintro ⟨_, h⟩; exact h1 h)] at hw
      simp (disch := omega) only [c_l20_ChainThins_r2, hol, hd, k_skip, k_seq, k_cond, k_block, k_loop, k_range, k_exit, k_scope, k_ret, k_region, c_nil, c_seq, c_blk, c_lp, e_nil, e_seq, e_blk, e_lp, r_nil, r_seq, r_blk, r_lp, o_nil, o_p, o_pg, o_l, o_a, o_c, o_cg, o_store, o_mapU, o_app, o_copy, o_del, evP, evA, ev_tmp, ev_const, ev_func, evArgs_nil, evArgs_cons, evParts_nil, evParts_cons, evOpt_none, evOpt_some, putO_some, putO_none, restrict_cons, restrict_nil, argFr_cons, argFr_nil, upd_app, Nat.reduceAdd, Nat.reduceEqDiff, Nat.zero_add, Nat.add_zero, bump_zero, St.bump_next, St.put_next, decide_eq_true_eq, condK_bool, stepP_some, stepA_some, stepE_some, stepE_pend, grdK_bool, grdK_undf, opPick_dec, opPick_true, opPick_false, bin_eql, bin_neq, bin_lss, bin_leq, bin_gtr, bin_geq, bin_add64, bin_sub64, bin_mul64, pendOk_nil, passed_nil, n_add, n_mul, n_and, bin_and32, bin_shr32, conv_nat, un_not, conv_64, decide_true, decide_false, true_implies, false_implies, forall_const, and_true, true_and, eq_self, ne_eq, ↓reduceIte, implies_true, Int.reduceLT, Int.reduceGT, Int.reduceLE, Int.reduceEq, Int.reduceNeg, and_self, Bool.not_eq_true, end_ret, end_nrm, endK_some, res_nil, res_tmp, res_cell1, res_cellN, resVal_one, resVal_none, resVal_two, Option.map_some, Option.bind_some, opExtract_eq, List.getElem?_cons_zero, List.getElem?_cons_succ, opNil_ptr, fld_ptr, Nat.mul_one, kbb, loadV_box, load1_box, loadN_box, cellsN_some, drop?_zero, drop?_succ, take?_zero, take?_succ, one?_some, store_box, storeC_some, get_eq, get_ne, loadOf_1, loadOf_n, stepL_some, loadK_some, pend_zero, pend_succ, passed_one, passed_more, prevOk_zero, prevOk_nil, prevOk_cons, pendOk_cons, sameLoadK_eq, St.bump_get, bump_getF, St.bump_wm, St.put_wm, St.get_put, Nat.le_add_right, Nat.le_refl, Bool.true_and, Bool.and_true, Bool.and_self, opBuild_eq, opBox_eq, parts_nil, parts_cons, fill_nil, fill_cons, splice_nil, splice_zero, splice_succ, vcells_int, vcells_bool, vcells_ptr, vcells_slice, vcells_map, vcells_agg, one_int, one_bool, one_ptr, one_slice, one_map, List.length_cons, List.length_nil, List.all_cons, List.all_nil, List.append_nil, List.cons_append, List.nil_append, sameK_eq, vsamesF_nil, vsamesF_cons, same_bool, same_int, same_ptr, same_slice, same_map, eq_bool, neq_bool]
      exact law_r1 h hpl hw (by omega) _

theorem law_true {s : St} (hf : Fresh s) (hwm : s.wm = s.next) {c : Bool} {lv rv : Value} {les : List (List Value)} {qs : List P} {bs : List Nat} (hrow : RowL s 6 lv les) (hin : les.length ≤ 8 → LIn s lv rv les qs bs)
    (hfit : Ret prog (fv n_l20_fit) [] s (.bool true) s) : WCall prog (fv n_l20_ChainThins) [lv, rv, .bool c] s (fun v _ => v = .bool true) := by
  refine ret_fn p_law rfl (by simp [c_l20_ChainThins]) ?_
  have hll := (hrow s (Later.refl s)).len
  simp (disch := omega) only [c_l20_ChainThins, List.append_nil, k_skip, k_seq, k_cond, k_block, k_loop, k_range, k_exit, k_scope, k_ret, k_region, c_nil, c_seq, c_blk, c_lp, e_nil, e_seq, e_blk, e_lp, r_nil, r_seq, r_blk, r_lp, o_nil, o_p, o_pg, o_l, o_a, o_c, o_cg, o_store, o_mapU, o_app, o_copy, o_del, evP, evA, ev_tmp, ev_const, ev_func, evArgs_nil, evArgs_cons, evParts_nil, evParts_cons, evOpt_none, evOpt_some, putO_some, putO_none, restrict_cons, restrict_nil, argFr_cons, argFr_nil, upd_app, Nat.reduceAdd, Nat.reduceEqDiff, Nat.zero_add, Nat.add_zero, bump_zero, St.bump_next, St.put_next, decide_eq_true_eq, condK_bool, stepP_some, stepA_some, stepE_some, stepE_pend, grdK_bool, grdK_undf, opPick_dec, opPick_true, opPick_false, bin_eql, bin_neq, bin_lss, bin_leq, bin_gtr, bin_geq, bin_add64, bin_sub64, bin_mul64, pendOk_nil, passed_nil, n_add, n_mul, n_and, bin_and32, bin_shr32, conv_nat, un_not, conv_64, decide_true, decide_false, true_implies, false_implies, forall_const, and_true, true_and, eq_self, ne_eq, ↓reduceIte, implies_true, Int.reduceLT, Int.reduceGT, Int.reduceLE, Int.reduceEq, Int.reduceNeg, and_self, Bool.not_eq_true, end_ret, end_nrm, endK_some, res_nil, res_tmp, res_cell1, res_cellN, resVal_one, resVal_none, resVal_two, Option.map_some, Option.bind_some, opExtract_eq, List.getElem?_cons_zero, List.getElem?_cons_succ, opNil_ptr, fld_ptr, Nat.mul_one, kbb]
  refine callK.ofS hfit ?_
  by_cases h8 : 8 < les.length
  · have hd : ((les.length : Int) > 8) = True := eq_true (by omega)
    simp (disch := omega) only [hll, hd, k_skip, k_seq, k_cond, k_block, k_loop, k_range, k_exit, k_scope, k_ret, k_region, c_nil, c_seq, c_blk, c_lp, e_nil, e_seq, e_blk, e_lp, r_nil, r_seq, r_blk, r_lp, o_nil, o_p, o_pg, o_l, o_a, o_c, o_cg, o_store, o_mapU, o_app, o_copy, o_del, evP, evA, ev_tmp, ev_const, ev_func, evArgs_nil, evArgs_cons, evParts_nil, evParts_cons, evOpt_none, evOpt_some, putO_some, putO_none, restrict_cons, restrict_nil, argFr_cons, argFr_nil, upd_app, Nat.reduceAdd, Nat.reduceEqDiff, Nat.zero_add, Nat.add_zero, bump_zero, St.bump_next, St.put_next, decide_eq_true_eq, condK_bool, stepP_some, stepA_some, stepE_some, stepE_pend, grdK_bool, grdK_undf, opPick_dec, opPick_true, opPick_false, bin_eql, bin_neq, bin_lss, bin_leq, bin_gtr, bin_geq, bin_add64, bin_sub64, bin_mul64, pendOk_nil, passed_nil, n_add, n_mul, n_and, bin_and32, bin_shr32, conv_nat, un_not, conv_64, decide_true, decide_false, true_implies, false_implies, forall_const, and_true, true_and, eq_self, ne_eq, ↓reduceIte, implies_true, Int.reduceLT, Int.reduceGT, Int.reduceLE, Int.reduceEq, Int.reduceNeg, and_self, Bool.not_eq_true, end_ret, end_nrm, endK_some, res_nil, res_tmp, res_cell1, res_cellN, resVal_one, resVal_none, resVal_two, Option.map_some, Option.bind_some, opExtract_eq, List.getElem?_cons_zero, List.getElem?_cons_succ, opNil_ptr, fld_ptr, Nat.mul_one, kbb, loadV_box, load1_box, loadN_box, cellsN_some, drop?_zero, drop?_succ, take?_zero, take?_succ, one?_some, store_box, storeC_some, get_eq, get_ne, loadOf_1, loadOf_n, stepL_some, loadK_some, pend_zero, pend_succ, passed_one, passed_more, prevOk_zero, prevOk_nil, prevOk_cons, pendOk_cons, sameLoadK_eq, St.bump_get, bump_getF, St.bump_wm, St.put_wm, St.get_put, Nat.le_add_right, Nat.le_refl, Bool.true_and, Bool.and_true, Bool.and_self, opBuild_eq, opBox_eq, parts_nil, parts_cons, fill_nil, fill_cons, splice_nil, splice_zero, splice_succ, vcells_int, vcells_bool, vcells_ptr, vcells_slice, vcells_map, vcells_agg, one_int, one_bool, one_ptr, one_slice, one_map, List.length_cons, List.length_nil, List.all_cons, List.all_nil, List.append_nil, List.cons_append, List.nil_append, sameK_eq, vsamesF_nil, vsamesF_cons, same_bool, same_int, same_ptr, same_slice, same_map, eq_bool, neq_bool]
  · have hd : ((les.length : Int) > 8) = False := eq_false (by omega)
    have hin := hin (by omega)
    have hlq := hin.len
    have hsm := hin.small
    have hwle : (s.next ≤ s.next) = True := eq_true (by omega)
    have hinv0 : LInv s s.next c (((s.bump 1).put s.next (.cells false [.bool false, .slice none 0 0, .slice none 0 0])).put s.next (.cells false [.bool c, .slice none 0 0, .slice none 0 0])) (.slice none 0 0) (.slice none 0 0) (.slice none 0 0) [] [] [] [] (dedup (qs.take 0)) :=
      ⟨((hf.bump 1).put (by simp)).put (by simp), by simp, hwm, get_eq _ _ _, Own.nil (by omega), Own.nil (by omega), Pts.nil, Own.nil (by omega), Pts.nil, (fun a n m a' n' m' e => by cases e), (fun a n m a' n' m' e => by cases e), (fun a n m a' n' m' e => by cases e),
        fun i hi => by rw [get_ne (by omega), get_ne (by omega)]; rfl⟩
    rw [hlq] at hll hd
    simp (disch := omega) only [hll, hd, hwm, k_skip, k_seq, k_cond, k_block, k_loop, k_range, k_exit, k_scope, k_ret, k_region, c_nil, c_seq, c_blk, c_lp, e_nil, e_seq, e_blk, e_lp, r_nil, r_seq, r_blk, r_lp, o_nil, o_p, o_pg, o_l, o_a, o_c, o_cg, o_store, o_mapU, o_app, o_copy, o_del, evP, evA, ev_tmp, ev_const, ev_func, evArgs_nil, evArgs_cons, evParts_nil, evParts_cons, evOpt_none, evOpt_some, putO_some, putO_none, restrict_cons, restrict_nil, argFr_cons, argFr_nil, upd_app, Nat.reduceAdd, Nat.reduceEqDiff, Nat.zero_add, Nat.add_zero, bump_zero, St.bump_next, St.put_next, decide_eq_true_eq, condK_bool, stepP_some, stepA_some, stepE_some, stepE_pend, grdK_bool, grdK_undf, opPick_dec, opPick_true, opPick_false, bin_eql, bin_neq, bin_lss, bin_leq, bin_gtr, bin_geq, bin_add64, bin_sub64, bin_mul64, pendOk_nil, passed_nil, n_add, n_mul, n_and, bin_and32, bin_shr32, conv_nat, un_not, conv_64, decide_true, decide_false, true_implies, false_implies, forall_const, and_true, true_and, eq_self, ne_eq, ↓reduceIte, implies_true, Int.reduceLT, Int.reduceGT, Int.reduceLE, Int.reduceEq, Int.reduceNeg, and_self, Bool.not_eq_true, end_ret, end_nrm, endK_some, res_nil, res_tmp, res_cell1, res_cellN, resVal_one, resVal_none, resVal_two, Option.map_some, Option.bind_some, opExtract_eq, List.getElem?_cons_zero, List.getElem?_cons_succ, opNil_ptr, fld_ptr, Nat.mul_one, kbb, loadV_box, load1_box, loadN_box, cellsN_some, drop?_zero, drop?_succ, take?_zero, take?_succ, one?_some, store_box, storeC_some, get_eq, get_ne, loadOf_1, loadOf_n, stepL_some, loadK_some, pend_zero, pend_succ, passed_one, passed_more, prevOk_zero, prevOk_nil, prevOk_cons, pendOk_cons, sameLoadK_eq, St.bump_get, bump_getF, St.bump_wm, St.put_wm, St.get_put, Nat.le_add_right, Nat.le_refl, Bool.true_and, Bool.and_true, Bool.and_self, opBuild_eq, opBox_eq, parts_nil, parts_cons, fill_nil, fill_cons, splice_nil, splice_zero, splice_succ, vcells_int, vcells_bool, vcells_ptr, vcells_slice, vcells_map, vcells_agg, one_int, one_bool, one_ptr, one_slice, one_map, List.length_cons, List.length_nil, List.all_cons, List.all_nil, List.append_nil, List.cons_append, List.nil_append, sameK_eq, vsamesF_nil, vsamesF_cons, same_bool, same_int, same_ptr, same_slice, same_map, eq_bool, neq_bool]
    refine law_loop hin rfl ?_ qs.length 0 _ _ _ _ _ _ _ _ (by omega) hinv0 rfl (by simp) (by simp)
    intro s1 ev pv o ees pes es pl G hinv hpl hlen
    have hwl := dedup_len qs
    have ho := hinv.ownO.row
    have hol := ho.len
    have hlo := hinv.ptsO.len
    rw [hlo] at hol
    have hfin : wantL c (dedup qs) = thinL c pl := by rw [want_close, ← hpl]; rfl
    generalize dedup qs = ws at *
    cases c with
    | false =>
      have hw : (if (false = true ∧ 1 < ws.length) then ws ++ ws.take 1 else ws) = thinL false pl := by rw [← hfin]; simp [wantL]
      simp (disch := omega) only [hol, k_skip, k_seq, k_cond, k_block, k_loop, k_range, k_exit, k_scope, k_ret, k_region, c_nil, c_seq, c_blk, c_lp, e_nil, e_seq, e_blk, e_lp, r_nil, r_seq, r_blk, r_lp, o_nil, o_p, o_pg, o_l, o_a, o_c, o_cg, o_store, o_mapU, o_app, o_copy, o_del, evP, evA, ev_tmp, ev_const, ev_func, evArgs_nil, evArgs_cons, evParts_nil, evParts_cons, evOpt_none, evOpt_some, putO_some, putO_none, restrict_cons, restrict_nil, argFr_cons, argFr_nil, upd_app, Nat.reduceAdd, Nat.reduceEqDiff, Nat.zero_add, Nat.add_zero, bump_zero, St.bump_next, St.put_next, decide_eq_true_eq, condK_bool, stepP_some, stepA_some, stepE_some, stepE_pend, grdK_bool, grdK_undf, opPick_dec, opPick_true, opPick_false, bin_eql, bin_neq, bin_lss, bin_leq, bin_gtr, bin_geq, bin_add64, bin_sub64, bin_mul64, pendOk_nil, passed_nil, n_add, n_mul, n_and, bin_and32, bin_shr32, conv_nat, un_not, conv_64, decide_true, decide_false, true_implies, false_implies, forall_const, and_true, true_and, eq_self, ne_eq, ↓reduceIte, implies_true, Int.reduceLT, Int.reduceGT, Int.reduceLE, Int.reduceEq, Int.reduceNeg, and_self, Bool.not_eq_true, end_ret, end_nrm, endK_some, res_nil, res_tmp, res_cell1, res_cellN, resVal_one, resVal_none, resVal_two, Option.map_some, Option.bind_some, opExtract_eq, List.getElem?_cons_zero, List.getElem?_cons_succ, opNil_ptr, fld_ptr, Nat.mul_one, kbb, loadV_box, load1_box, loadN_box, cellsN_some, drop?_zero, drop?_succ, take?_zero, take?_succ, one?_some, store_box, storeC_some, get_eq, get_ne, loadOf_1, loadOf_n, stepL_some, loadK_some, pend_zero, pend_succ, passed_one, passed_more, prevOk_zero, prevOk_nil, prevOk_cons, pendOk_cons, sameLoadK_eq, St.bump_get, bump_getF, St.bump_wm, St.put_wm, St.get_put, Nat.le_add_right, Nat.le_refl, Bool.true_and, Bool.and_true, Bool.and_self, opBuild_eq, opBox_eq, parts_nil, parts_cons, fill_nil, fill_cons, splice_nil, splice_zero, splice_succ, vcells_int, vcells_bool, vcells_ptr, vcells_slice, vcells_map, vcells_agg, one_int, one_bool, one_ptr, one_slice, one_map, List.length_cons, List.length_nil, List.all_cons, List.all_nil, List.append_nil, List.cons_append, List.nil_append, sameK_eq, vsamesF_nil, vsamesF_cons, same_bool, same_int, same_ptr, same_slice, same_map, eq_bool, neq_bool]
      exact law_r2 hinv hlen hw (by omega) _
    | true =>
      by_cases h1 : 1 < ws.length
      · have hd1 : ((ws.length : Int) > 1) = True := eq_true (by omega)
        have ht0 : (0 : Int).toNat = 0 := rfl
        have ht1 : ((ws.length : Int) - 1).toNat = ws.length - 1 := by omega
        have hld0 := ho.loadN0 (i := 0) (by omega)
        have hld1 := ho.loadN0 (i := ws.length - 1) (by omega)
        have hs : ∀ i, i < ws.length → Ss (ws.getD i (0, 0)) := fun i hi => hinv.ptsO.sz _ (by
          have : ws.getD i (0, 0) = ws[i]'(by omega) := by simp [List.getD, hi]
          rw [this]; exact List.getElem_mem _)
        have hsame := sSame_ret hinv.fresh (hinv.ptsO.is 0 (by omega)) (hinv.ptsO.is (ws.length - 1) (by omega)) (hs _ (by omega)) (hs _ (by omega))
        have hsl := ho.sliceHi (k := .i64) (i := ((ws.length : Int) - 1)) (by omega) (by omega)
        simp (disch := omega) only [hol, hd1, ho.addr, ht0, ht1, hld0, hld1, k_skip, k_seq, k_cond, k_block, k_loop, k_range, k_exit, k_scope, k_ret, k_region, c_nil, c_seq, c_blk, c_lp, e_nil, e_seq, e_blk, e_lp, r_nil, r_seq, r_blk, r_lp, o_nil, o_p, o_pg, o_l, o_a, o_c, o_cg, o_store, o_mapU, o_app, o_copy, o_del, evP, evA, ev_tmp, ev_const, ev_func, evArgs_nil, evArgs_cons, evParts_nil, evParts_cons, evOpt_none, evOpt_some, putO_some, putO_none, restrict_cons, restrict_nil, argFr_cons, argFr_nil, upd_app, Nat.reduceAdd, Nat.reduceEqDiff, Nat.zero_add, Nat.add_zero, bump_zero, St.bump_next, St.put_next, decide_eq_true_eq, condK_bool, stepP_some, stepA_some, stepE_some, stepE_pend, grdK_bool, grdK_undf, opPick_dec, opPick_true, opPick_false, bin_eql, bin_neq, bin_lss, bin_leq, bin_gtr, bin_geq, bin_add64, bin_sub64, bin_mul64, pendOk_nil, passed_nil, n_add, n_mul, n_and, bin_and32, bin_shr32, conv_nat, un_not, conv_64, decide_true, decide_false, true_implies, false_implies, forall_const, and_true, true_and, eq_self, ne_eq, ↓reduceIte, implies_true, Int.reduceLT, Int.reduceGT, Int.reduceLE, Int.reduceEq, Int.reduceNeg, and_self, Bool.not_eq_true, end_ret, end_nrm, endK_some, res_nil, res_tmp, res_cell1, res_cellN, resVal_one, resVal_none, resVal_two, Option.map_some, Option.bind_some, opExtract_eq, List.getElem?_cons_zero, List.getElem?_cons_succ, opNil_ptr, fld_ptr, Nat.mul_one, kbb, loadV_box, load1_box, loadN_box, cellsN_some, drop?_zero, drop?_succ, take?_zero, take?_succ, one?_some, store_box, storeC_some, get_eq, get_ne, loadOf_1, loadOf_n, stepL_some, loadK_some, pend_zero, pend_succ, passed_one, passed_more, prevOk_zero, prevOk_nil, prevOk_cons, pendOk_cons, sameLoadK_eq, St.bump_get, bump_getF, St.bump_wm, St.put_wm, St.get_put, Nat.le_add_right, Nat.le_refl, Bool.true_and, Bool.and_true, Bool.and_self, opBuild_eq, opBox_eq, parts_nil, parts_cons, fill_nil, fill_cons, splice_nil, splice_zero, splice_succ, vcells_int, vcells_bool, vcells_ptr, vcells_slice, vcells_map, vcells_agg, one_int, one_bool, one_ptr, one_slice, one_map, List.length_cons, List.length_nil, List.all_cons, List.all_nil, List.append_nil, List.cons_append, List.nil_append, sameK_eq, vsamesF_nil, vsamesF_cons, same_bool, same_int, same_ptr, same_slice, same_map, eq_bool, neq_bool]
        refine callK.ofS hsame ?_
        by_cases heq : ws.getD 0 (0, 0) = ws.getD (ws.length - 1) (0, 0)
        · have hdd : decide (ws.getD 0 (0, 0) = ws.getD (ws.length - 1) (0, 0)) = true := decide_eq_true heq
          have hw : (if (true = true ∧ 1 < (ws.take (ws.length - 1)).length) then ws.take (ws.length - 1) ++ (ws.take (ws.length - 1)).take 1 else ws.take (ws.length - 1)) = thinL true pl := by
            rw [← hfin]
            simp only [wantL, h1, heq, and_self, if_true, true_and]
          have hinv2 : LInv s s.next true s1 ev pv (sub 6 o 0 (ws.length - 1)) ees pes (es.take (ws.length - 1)) pl (ws.take (ws.length - 1)) :=
            ⟨hinv.fresh, hinv.old, hinv.wm, hinv.box, hinv.ownE, hinv.ownP, hinv.ptsP, hinv.ownO.pre (by omega) (.inl (by rintro rfl; simp at hlo; omega)), hinv.ptsO.take _, hinv.ap1, ?_, ?_, hinv.low⟩
          · simp (disch := omega) only [hdd, hol, hsl, ht1, k_skip, k_seq, k_cond, k_block, k_loop, k_range, k_exit, k_scope, k_ret, k_region, c_nil, c_seq, c_blk, c_lp, e_nil, e_seq, e_blk, e_lp, r_nil, r_seq, r_blk, r_lp, o_nil, o_p, o_pg, o_l, o_a, o_c, o_cg, o_store, o_mapU, o_app, o_copy, o_del, evP, evA, ev_tmp, ev_const, ev_func, evArgs_nil, evArgs_cons, evParts_nil, evParts_cons, evOpt_none, evOpt_some, putO_some, putO_none, restrict_cons, restrict_nil, argFr_cons, argFr_nil, upd_app, Nat.reduceAdd, Nat.reduceEqDiff, Nat.zero_add, Nat.add_zero, bump_zero, St.bump_next, St.put_next, decide_eq_true_eq, condK_bool, stepP_some, stepA_some, stepE_some, stepE_pend, grdK_bool, grdK_undf, opPick_dec, opPick_true, opPick_false, bin_eql, bin_neq, bin_lss, bin_leq, bin_gtr, bin_geq, bin_add64, bin_sub64, bin_mul64, pendOk_nil, passed_nil, n_add, n_mul, n_and, bin_and32, bin_shr32, conv_nat, un_not, conv_64, decide_true, decide_false, true_implies, false_implies, forall_const, and_true, true_and, eq_self, ne_eq, ↓reduceIte, implies_true, Int.reduceLT, Int.reduceGT, Int.reduceLE, Int.reduceEq, Int.reduceNeg, and_self, Bool.not_eq_true, end_ret, end_nrm, endK_some, res_nil, res_tmp, res_cell1, res_cellN, resVal_one, resVal_none, resVal_two, Option.map_some, Option.bind_some, opExtract_eq, List.getElem?_cons_zero, List.getElem?_cons_succ, opNil_ptr, fld_ptr, Nat.mul_one, kbb, loadV_box, load1_box, loadN_box, cellsN_some, drop?_zero, drop?_succ, take?_zero, take?_succ, one?_some, store_box, storeC_some, get_eq, get_ne, loadOf_1, loadOf_n, stepL_some, loadK_some, pend_zero, pend_succ, passed_one, passed_more, prevOk_zero, prevOk_nil, prevOk_cons, pendOk_cons, sameLoadK_eq, St.bump_get, bump_getF, St.bump_wm, St.put_wm, St.get_put, Nat.le_add_right, Nat.le_refl, Bool.true_and, Bool.and_true, Bool.and_self, opBuild_eq, opBox_eq, parts_nil, parts_cons, fill_nil, fill_cons, splice_nil, splice_zero, splice_succ, vcells_int, vcells_bool, vcells_ptr, vcells_slice, vcells_map, vcells_agg, one_int, one_bool, one_ptr, one_slice, one_map, List.length_cons, List.length_nil, List.all_cons, List.all_nil, List.append_nil, List.cons_append, List.nil_append, sameK_eq, vsamesF_nil, vsamesF_cons, same_bool, same_int, same_ptr, same_slice, same_map, eq_bool, neq_bool]
            exact law_r2 hinv2 hlen hw (by simp; omega) _
          · intro a n m a' n' m' e1 e2
            rcases hinv.ownO.is with ⟨rfl, _⟩ | ⟨b, cs, rfl, _⟩
            · simp [sub] at e2
            · simp only [sub, Value.slice.injEq, Option.some.injEq] at e2
              obtain ⟨rfl, _⟩ := e2
              exact hinv.ap2 _ _ _ _ _ _ e1 rfl
          · intro a n m a' n' m' e1 e2
            rcases hinv.ownO.is with ⟨rfl, _⟩ | ⟨b, cs, rfl, _⟩
            · simp [sub] at e2
            · simp only [sub, Value.slice.injEq, Option.some.injEq] at e2
              obtain ⟨rfl, _⟩ := e2
              exact hinv.ap3 _ _ _ _ _ _ e1 rfl
        · have hdd : decide (ws.getD 0 (0, 0) = ws.getD (ws.length - 1) (0, 0)) = false := decide_eq_false heq
          have hw : (if (true = true ∧ 1 < ws.length) then ws ++ ws.take 1 else ws) = thinL true pl := by
            rw [← hfin]
            simp only [wantL, heq, and_false, if_false]
          simp (disch := omega) only [hdd, k_skip, k_seq, k_cond, k_block, k_loop, k_range, k_exit, k_scope, k_ret, k_region, c_nil, c_seq, c_blk, c_lp, e_nil, e_seq, e_blk, e_lp, r_nil, r_seq, r_blk, r_lp, o_nil, o_p, o_pg, o_l, o_a, o_c, o_cg, o_store, o_mapU, o_app, o_copy, o_del, evP, evA, ev_tmp, ev_const, ev_func, evArgs_nil, evArgs_cons, evParts_nil, evParts_cons, evOpt_none, evOpt_some, putO_some, putO_none, restrict_cons, restrict_nil, argFr_cons, argFr_nil, upd_app, Nat.reduceAdd, Nat.reduceEqDiff, Nat.zero_add, Nat.add_zero, bump_zero, St.bump_next, St.put_next, decide_eq_true_eq, condK_bool, stepP_some, stepA_some, stepE_some, stepE_pend, grdK_bool, grdK_undf, opPick_dec, opPick_true, opPick_false, bin_eql, bin_neq, bin_lss, bin_leq, bin_gtr, bin_geq, bin_add64, bin_sub64, bin_mul64, pendOk_nil, passed_nil, n_add, n_mul, n_and, bin_and32, bin_shr32, conv_nat, un_not, conv_64, decide_true, decide_false, true_implies, false_implies, forall_const, and_true, true_and, eq_self, ne_eq, ↓reduceIte, implies_true, Int.reduceLT, Int.reduceGT, Int.reduceLE, Int.reduceEq, Int.reduceNeg, and_self, Bool.not_eq_true, end_ret, end_nrm, endK_some, res_nil, res_tmp, res_cell1, res_cellN, resVal_one, resVal_none, resVal_two, Option.map_some, Option.bind_some, opExtract_eq, List.getElem?_cons_zero, List.getElem?_cons_succ, opNil_ptr, fld_ptr, Nat.mul_one, kbb, loadV_box, load1_box, loadN_box, cellsN_some, drop?_zero, drop?_succ, take?_zero, take?_succ, one?_some, store_box, storeC_some, get_eq, get_ne, loadOf_1, loadOf_n, stepL_some, loadK_some, pend_zero, pend_succ, passed_one, passed_more, prevOk_zero, prevOk_nil, prevOk_cons, pendOk_cons, sameLoadK_eq, St.bump_get, bump_getF, St.bump_wm, St.put_wm, St.get_put, Nat.le_add_right, Nat.le_refl, Bool.true_and, Bool.and_true, Bool.and_self, opBuild_eq, opBox_eq, parts_nil, parts_cons, fill_nil, fill_cons, splice_nil, splice_zero, splice_succ, vcells_int, vcells_bool, vcells_ptr, vcells_slice, vcells_map, vcells_agg, one_int, one_bool, one_ptr, one_slice, one_map, List.length_cons, List.length_nil, List.all_cons, List.all_nil, List.append_nil, List.cons_append, List.nil_append, sameK_eq, vsamesF_nil, vsamesF_cons, same_bool, same_int, same_ptr, same_slice, same_map, eq_bool, neq_bool]
          exact law_r2 hinv hlen hw (by omega) _
      · have hd1 : ((ws.length : Int) > 1) = False := eq_false (by omega)
        have hw : (if (true = true ∧ 1 < ws.length) then ws ++ ws.take 1 else ws) = thinL true pl := by
          rw [← hfin]
          simp only [wantL, h1, false_and, and_false, if_false]
        simp (disch := omega) only [hol, hd1, k_skip, k_seq, k_cond, k_block, k_loop, k_range, k_exit, k_scope, k_ret, k_region, c_nil, c_seq, c_blk, c_lp, e_nil, e_seq, e_blk, e_lp, r_nil, r_seq, r_blk, r_lp, o_nil, o_p, o_pg, o_l, o_a, o_c, o_cg, o_store, o_mapU, o_app, o_copy, o_del, evP, evA, ev_tmp, ev_const, ev_func, evArgs_nil, evArgs_cons, evParts_nil, evParts_cons, evOpt_none, evOpt_some, putO_some, putO_none, restrict_cons, restrict_nil, argFr_cons, argFr_nil, upd_app, Nat.reduceAdd, Nat.reduceEqDiff, Nat.zero_add, Nat.add_zero, bump_zero, St.bump_next, St.put_next, decide_eq_true_eq, condK_bool, stepP_some, stepA_some, stepE_some, stepE_pend, grdK_bool, grdK_undf, opPick_dec, opPick_true, opPick_false, bin_eql, bin_neq, bin_lss, bin_leq, bin_gtr, bin_geq, bin_add64, bin_sub64, bin_mul64, pendOk_nil, passed_nil, n_add, n_mul, n_and, bin_and32, bin_shr32, conv_nat, un_not, conv_64, decide_true, decide_false, true_implies, false_implies, forall_const, and_true, true_and, eq_self, ne_eq, ↓reduceIte, implies_true, Int.reduceLT, Int.reduceGT, Int.reduceLE, Int.reduceEq, Int.reduceNeg, and_self, Bool.not_eq_true, end_ret, end_nrm, endK_some, res_nil, res_tmp, res_cell1, res_cellN, resVal_one, resVal_none, resVal_two, Option.map_some, Option.bind_some, opExtract_eq, List.getElem?_cons_zero, List.getElem?_cons_succ, opNil_ptr, fld_ptr, Nat.mul_one, kbb, loadV_box, load1_box, loadN_box, cellsN_some, drop?_zero, drop?_succ, take?_zero, take?_succ, one?_some, store_box, storeC_some, get_eq, get_ne, loadOf_1, loadOf_n, stepL_some, loadK_some, pend_zero, pend_succ, passed_one, passed_more, prevOk_zero, prevOk_nil, prevOk_cons, pendOk_cons, sameLoadK_eq, St.bump_get, bump_getF, St.bump_wm, St.put_wm, St.get_put, Nat.le_add_right, Nat.le_refl, Bool.true_and, Bool.and_true, Bool.and_self, opBuild_eq, opBox_eq, parts_nil, parts_cons, fill_nil, fill_cons, splice_nil, splice_zero, splice_succ, vcells_int, vcells_bool, vcells_ptr, vcells_slice, vcells_map, vcells_agg, one_int, one_bool, one_ptr, one_slice, one_map, List.length_cons, List.length_nil, List.all_cons, List.all_nil, List.append_nil, List.cons_append, List.nil_append, sameK_eq, vsamesF_nil, vsamesF_cons, same_bool, same_int, same_ptr, same_slice, same_map, eq_bool, neq_bool]
        exact law_r2 hinv hlen hw (by omega) _
end Go.Iso

