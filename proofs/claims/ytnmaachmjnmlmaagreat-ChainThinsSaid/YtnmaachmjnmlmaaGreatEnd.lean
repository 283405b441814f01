/-
  The law ChainThins holds: its statement.
-/
import Derived.Test.YtnmaachmjnmlmaaGreatId
import Derived.Test.YtnmaachmjnmlmaaGreatMe
import Derived.Test.YtnmaachmjnmlmaaGreatPo
import Derived.Test.YtnmaachmjnmlmaaGreatRows
import Derived.ProofKit
set_option linter.unusedVariables false
set_option linter.unusedSimpArgs false
set_option linter.unusedSectionVars false
namespace Go.Proofs.YtnmaachmjnmlmaaGreat
open Go.ChangeShapes Go.WideShapes Go.ChangeAt Go.RowKit
open Go.Ev Go.Iso

/-- The table in which the law's own trial is known to answer true. -/
def progT : Nat → Option CDecl := setP Iso.prog n_l20_fit fun args => match args with
  | [] => some (.bool true)
  | _ => none
theorem fit_true : ∃ s, callV progE 400 (.func (.func n_l20_fit) ⟨[]⟩ ⟨[]⟩) [] ⟨0, 0, .leaf⟩ = some (.bool true, s) := trueB_some fit_runs
theorem pokT : POk Tryz.prog progT := by
  obtain ⟨s, h⟩ := fit_true
  exact POk.set pok (prim_closed (pokE pok) h)
instance arithT : Arith progT := ⟨rfl, rfl, rfl, rfl, rfl, rfl, rfl, rfl, rfl, rfl, rfl, rfl, rfl, rfl, rfl, rfl, rfl, rfl, rfl, rfl, rfl, rfl, rfl, rfl, rfl, rfl, rfl, rfl, rfl, rfl, rfl, rfl, rfl, rfl, rfl, rfl, rfl, rfl⟩
theorem fitT : Ret progT (fv n_l20_fit) [] st0 (.bool true) st0 := ⟨1, fun n hn => by
  obtain ⟨m, rfl⟩ : ∃ m, n = m + 1 := ⟨n - 1, by omega⟩
  rfl⟩

theorem Tryz.own : ownKnob Tryz.prog.godebug = none := by kernel_rfl
theorem Tryz.laidOut : laidOutB Tryz.prog = true := by kernel_rfl

theorem spotT : SpotT Tryz.prog 35 33 31 29 127 4 := by
  refine ⟨⟨_, _, Tryz.underlying35, rfl, rfl, rfl, rfl⟩, ⟨_, _, Tryz.underlying33, rfl, rfl, rfl, rfl⟩, ⟨_, _, Tryz.underlying31, rfl, rfl, rfl, rfl⟩, ?_, ?_, ?_, ?_, ?_, ?_, ?_, ?_, ?_⟩ <;> kernel_rfl

set_option maxRecDepth 100000 in
theorem thins_lifted (os : Os) (started : os.Started) (H : Type) (enc : TypeId × Value → H) :
    ReturnsInHanded {} Tryz.checked os 3 .any (Rows.chainThinsSpec.pre6 enc Tryz.prog Tryz.f3 Rows.chainThinsRow.domain false) (Rows.chainThinsSpec.post enc Tryz.prog Tryz.f3 false true false false) := by
  refine returnsInHanded_of_change (C := Tryz.checked) Tryz.own started (by kernel_rfl) Tryz.func3
    (ChangeSpec.witness6 (enc := enc) (C := Tryz.checked) false ⟨#[], #[.slice none 0 0, .slice none 0 0, .bool false], []⟩ 8 (by kernel_rfl) (by kernel_rfl) (by kernel_rfl) (by kernel_rfl)) ?_
  intro W base args ds gs before hval0 hW hcnd _
  have hval : ∀ (j : Nat) t v, Tryz.f3.params[j]? = some t → args[j]? = some v → Value.okWide Tryz.prog W .any base t v := hval0
  have hW' := hW
  obtain ⟨p, q, hA0, hV, rfl, hfz, hnd⟩ := hW
  have hA : DataW.TrodAll enc Tryz.prog W 0 (fun _ => true) true Tryz.f3.params.toList args.toList ds p := hA0
  rw [Tryz.params3] at hA hval
  obtain ⟨v0, v1, v2, d0, d1, d2, p0, p1, p2, rfl, rfl, rfl, h0, h1, h2⟩ := trodAll_three hA
  obtain ⟨rfl, rfl⟩ := trodVars_none hV
  obtain ⟨a0, l0, c0, e0⟩ := okWide_slice Tryz.underlying22 (hval 0 22 v0 rfl rfl)
  obtain ⟨a1, l1, c1, e1⟩ := okWide_slice Tryz.underlying23 (hval 1 23 v1 rfl rfl)
  obtain ⟨c, rfl, rfl, rfl⟩ := open_bool Tryz.underlying4 (hval 2 4 v2 rfl rfl) h2
  clear hA0 hval0
  simp only [List.append_nil] at hW'
  have h0k := h0
  have h1k := h1
  have hlt0 : ∀ x ∈ p0, x.block < W.heap.size := fun x hx => by simpa using hW'.lt x (List.mem_append_left _ hx)
  have hlt1 : ∀ x ∈ p1, x.block < W.heap.size := fun x hx => by simpa using hW'.lt x (List.mem_append_right _ hx)
  obtain ⟨f0, h0⟩ := h0
  obtain ⟨f1, h1⟩ := h1
  have hc0 : v0.cells.toList = [v0] := by rw [e0]; rfl
  have hc1 : v1.cells.toList = [v1] := by rw [e1]; rfl
  rw [hc0] at h0
  rw [hc1] at h1
  refine (thins_calls (A0 := arithT) pokT spotT Tryz.underlying22 Tryz.underlying23 Tryz.underlying5 (by kernel_rfl) fitT h0 h1 c).mono fun e W' ⟨he, hg, hb⟩ => ?_
  subst he
  refine ⟨_, rfl, post_of_same (pa := p0 ++ (p1 ++ [])) (pv := []) hW' (fun _ _ _ => trodAll_mk1 (shut_bool Tryz.underlying4 true)) (fun sp hsp => ?_) (fun _ _ => rfl) (by simp)
    (hg.frame _) (fun a => hg.2.1 a) (ok_one (t := 4) (by kernel_rfl) rfl (okWide_bool_mk Tryz.underlying4 true))⟩
  refine trodAll_mk3 ?_ ?_ (shut_bool Tryz.underlying4 c)
  · exact WideElems.Trod_stays Tryz.laidOut (by kernel_rfl) (of_decide_eq_true (by kernel_rfl)) h0k (fun x hx => hb.same (hlt0 x hx)) (fun x hx => hsp x (List.mem_append_left _ hx))
  · exact WideElems.Trod_stays Tryz.laidOut (by kernel_rfl) (of_decide_eq_true (by kernel_rfl)) h1k (fun x hx => hb.same (hlt1 x hx)) (fun x hx => hsp x (List.mem_append_right _ hx))

theorem chainThins_holds : Rows.ChainThinsSaid :=
  OpenClaim.holds_of_wide 3 Tryz.f3 rfl rfl rfl rfl rfl rfl rfl ⟨rfl, rfl, rfl, rfl, rfl⟩ rfl rfl rfl rfl rfl (by kernel_rfl) Tryz.func3 (by kernel_rfl)
    (of_decide_eq_true (by kernel_rfl)) (by unfold Func.isWrapper; first | (rw [if_pos (by decide +kernel)]; kernel_rfl) | (rw [if_neg (by decide +kernel)]; exact ⟨rfl, rfl⟩))
    (fun os started H enc _ => thins_lifted os started H enc)
#print axioms chainThins_holds
end Go.Proofs.YtnmaachmjnmlmaaGreat

