/-
  The same with what stands behind as data, so that nothing is looked at before its time.

  What operations answer, said for proofs.

  Operations on words, as natural numbers.

  Memory, so that a simplifier works it out: blocks whose cells are listed.
-/
import Derived.Test.YtnmaachmjnmlmaaGreatFk
import Derived.Test.YtnmaachmjnmlmaaGreatFa
set_option linter.unusedVariables false
set_option linter.unusedSimpArgs false
set_option linter.unusedSectionVars false
namespace Go.Ev

inductive KItem where
  | seq (b : CCode)
  | blk (id : Nat)
  | lp (L : List Nat) (b : CCode)

variable (prog : Nat → Option CDecl)

def toQ : List KItem → (Ex → Fr → St → Prop) → Ex → Fr → St → Prop
  | [], Q => Q
  | .seq b :: k, Q => wpSeq (fun F s => wp prog b F s (toQ k Q)) (toQ k Q)
  | .blk id :: k, Q => wpBlk id (toQ k Q)
  | .lp L b :: k, Q => wpSeq (fun F s => WLoop prog L b F s (toQ k Q)) (toQ k Q)

def wpK (c : CCode) (F : Fr) (s : St) (k : List KItem) (Q : Ex → Fr → St → Prop) : Prop := wp prog c F s (toQ prog k Q)
def contK (F : Fr) (s : St) (k : List KItem) (Q : Ex → Fr → St → Prop) : Prop := toQ prog k Q .normal F s
def exitK (i : Nat) (F : Fr) (s : St) (k : List KItem) (Q : Ex → Fr → St → Prop) : Prop := toQ prog k Q (.exit i) F s
def retK (F : Fr) (s : St) (k : List KItem) (Q : Ex → Fr → St → Prop) : Prop := toQ prog k Q .ret F s
def loopK (L : List Nat) (b : CCode) (F : Fr) (s : St) (k : List KItem) (Q : Ex → Fr → St → Prop) : Prop := WLoop prog L b F s (toQ prog k Q)
def opsK (base : Nat) (ops : List CO) (F : Fr) (s : St) (prev : List St) (pend : Pend) (L : List Nat) (k : List KItem) (Q : Ex → Fr → St → Prop) : Prop :=
  wpOps prog base ops F s prev pend fun F' s' => toQ prog k Q .normal (restrict L F') s'
/-- A call within a region; 'd': where its answer goes. -/
def callK (f : Value) (args : List Value) (base : Nat) (d : Option Nat) (os : List CO) (F : Fr) (s : St) (prev : List St) (pend : Pend) (L : List Nat) (k : List KItem) (Q : Ex → Fr → St → Prop) : Prop :=
  WCall prog f args s fun v s' => pendOk s' pend = true ∧ opsK prog base os (putO F d v) s' (s :: prev) (passed pend) L k Q
section
variable (base : Nat) (d : Option Nat) (os : List CO) (F : Fr) (s : St) (prev : List St) (pend : Pend) (L : List Nat) (k : List KItem) (Q : Ex → Fr → St → Prop)
def condK (v : Value) (x y : CCode) : Prop := wpB v (wpK prog x F s k Q) (wpK prog y F s k Q)
def stepP (r : Option Value) : Prop := ∃ v, r = some v ∧ opsK prog base os (putO F d v) s prev pend L k Q
def stepA (id : Nat) (r : Option (Value × IObj)) : Prop := ∃ v ob, r = some (v, ob) ∧ opsK prog base os (putO F d v) (s.put id ob) prev pend L k Q
def stepE (r : Option (Value × St)) : Prop := ∃ v s', r = some (v, s') ∧ pendOk s' pend = true ∧ opsK prog base os (putO F d v) s' (s :: prev) (passed pend) L k Q
def stepL (m n : Nat) (r : Option Value) (l : Option (Value × Nat)) : Prop :=
  ∃ v p c vs, r = some v ∧ l = some (p, c) ∧ loadV s.get p c = some vs ∧ prevOk m prev ⟨p, c, vs⟩ = true ∧
      opsK prog base os (putO F d v) s prev (bif Nat.beq n 0 then pend else (n, some ⟨p, c, vs⟩) :: pend) L k Q
/-- What is done under a guard: an operation with its guard struck. -/
def grdK (v : Value) (b : Bool) (op : COp) : Prop :=
  wpG (opGuard v b) (opsK prog base (⟨d, op, none, none⟩ :: os) F s prev pend L k Q)
    (match op with
      | .e _ => pendOk s pend = true ∧ opsK prog base os (putO F d undf) s (s :: prev) (passed pend) L k Q
      | _ => opsK prog base os (putO F d undf) s prev pend L k Q)
end
def rangeK (f : Value) (ps : List Nat) (as b : CCode) (F : Fr) (s : St) (k : List KItem) (Q : Ex → Fr → St → Prop) : Prop :=
  WCall prog f [.func (.yield s.next) ⟨[]⟩ ⟨[]⟩] ((s.bump 1).put s.next (.loop { F, params := ps, assign := as, body := b, state := .ready, pending := none })) fun _ s2 =>
      ∃ r, s2.get s.next = some (.loop r) ∧ r.state ≠ .busy ∧ toQ prog k Q (r.pending.getD .normal) F (s2.put s.next .dead)

variable {prog}
section
variable {F : Fr} {s : St} {k : List KItem} {Q : Ex → Fr → St → Prop}
theorem k_skip : wpK prog .skip F s k Q = contK prog F s k Q := rfl
theorem k_seq (a b : CCode) : wpK prog (.seq a b) F s k Q = wpK prog a F s (.seq b :: k) Q := rfl
theorem k_cond (c : COpd) (x y : CCode) : wpK prog (.cond c x y) F s k Q = condK prog F s k Q (c.ev F) x y := rfl
theorem condK_bool (b : Bool) (x y : CCode) : condK prog F s k Q (.bool b) x y = if b = true then wpK prog x F s k Q else wpK prog y F s k Q := by
  cases b <;> simp [condK, wpB]
theorem k_block (id : Nat) (b : CCode) : wpK prog (.block id b) F s k Q = wpK prog b F s (.blk id :: k) Q := rfl
theorem k_loop (L : List Nat) (b : CCode) : wpK prog (.loop L b) F s k Q = loopK prog L b F s k Q := rfl
theorem k_range (f : COpd) (ps : List Nat) (as b : CCode) : wpK prog (.rangeFunc f ps as b) F s k Q = rangeK prog (f.ev F) ps as b F s k Q := rfl
theorem k_exit (i : Nat) : wpK prog (.exit i) F s k Q = exitK prog i F s k Q := rfl
theorem k_scope (b : CCode) : wpK prog (.scope b) F s k Q = wpK prog b F s k Q := rfl
theorem k_ret : wpK prog .ret F s k Q = retK prog F s k Q := rfl
theorem k_region (na : Nat) (L : List Nat) (ops : List CO) : wpK prog (.region na L ops) F s k Q = opsK prog s.next ops F (s.bump na) [] [] L k Q := rfl
theorem c_nil : contK prog F s [] Q = Q .normal F s := rfl
theorem c_seq (b : CCode) : contK prog F s (.seq b :: k) Q = wpK prog b F s k Q := rfl
theorem c_blk (id : Nat) : contK prog F s (.blk id :: k) Q = contK prog F s k Q := rfl
theorem c_lp (L : List Nat) (b : CCode) : contK prog F s (.lp L b :: k) Q = loopK prog L b F s k Q := rfl
theorem e_nil (i : Nat) : exitK prog i F s [] Q = Q (.exit i) F s := rfl
theorem e_seq (i : Nat) (b : CCode) : exitK prog i F s (.seq b :: k) Q = exitK prog i F s k Q := rfl
theorem e_blk (i : Nat) (id : Nat) : exitK prog i F s (.blk id :: k) Q = if i = id then contK prog F s k Q else exitK prog i F s k Q := rfl
theorem e_lp (i : Nat) (L : List Nat) (b : CCode) : exitK prog i F s (.lp L b :: k) Q = exitK prog i F s k Q := rfl
theorem r_nil : retK prog F s [] Q = Q .ret F s := rfl
theorem r_seq (b : CCode) : retK prog F s (.seq b :: k) Q = retK prog F s k Q := rfl
theorem r_blk (id : Nat) : retK prog F s (.blk id :: k) Q = retK prog F s k Q := rfl
theorem r_lp (L : List Nat) (b : CCode) : retK prog F s (.lp L b :: k) Q = retK prog F s k Q := rfl
theorem loopK.step {L : List Nat} {b : CCode} (h : wpK prog b (restrict L F) s (.lp L b :: k) Q) : loopK prog L b F s k Q := WLoop.step h

theorem loopK.stepAs {L : List Nat} {b b' : CCode} (hb : b = b') (h : wpK prog b' (restrict L F) s (.lp L b :: k) Q) : loopK prog L b F s k Q := by
  subst hb; exact WLoop.step h

section
variable {base : Nat} {os : List CO} {prev : List St} {pend : Pend} {L : List Nat} {d : Option Nat}
theorem o_nil : opsK prog base [] F s prev pend L k Q = contK prog (restrict L F) s k Q := rfl
theorem o_p (x : POp) : opsK prog base (⟨d, .p x, none, none⟩ :: os) F s prev pend L k Q = stepP prog base d os F s prev pend L k Q (evP s.get F x) := rfl
theorem o_pg (x : POp) (t : Nat) (b : Bool) : opsK prog base (⟨d, .p x, some (t, b), none⟩ :: os) F s prev pend L k Q = grdK prog base d os F s prev pend L k Q (F t) b (.p x) := rfl
theorem o_l (x : POp) (m n : Nat) : opsK prog base (⟨d, .p x, none, some (m, n)⟩ :: os) F s prev pend L k Q = stepL prog base d os F s prev pend L k Q m n (evP s.get F x) (loadOf F x) := rfl
theorem o_a (r : Nat) (x : AOp) : opsK prog base (⟨d, .a r x, none, none⟩ :: os) F s prev pend L k Q = stepA prog base d os F s prev pend L k Q (base + r) (evA F (base + r) x) := rfl
theorem o_c (f : COpd) (args : List COpd) : opsK prog base (⟨d, .e (.call f args), none, none⟩ :: os) F s prev pend L k Q = callK prog (f.ev F) (evArgs F args) base d os F s prev pend L k Q := rfl
theorem o_cg (x : EOp) (t : Nat) (b : Bool) : opsK prog base (⟨d, .e x, some (t, b), none⟩ :: os) F s prev pend L k Q = grdK prog base d os F s prev pend L k Q (F t) b (.e x) := by
  cases x <;> rfl
theorem o_store (n : Nat) (a x : COpd) : opsK prog base (⟨d, .e (.store n a x), none, none⟩ :: os) F s prev pend L k Q = stepE prog base d os F s prev pend L k Q (opStore s n (a.ev F) (x.ev F)) := rfl
theorem o_mapU (t : EqT) (m q x : COpd) : opsK prog base (⟨d, .e (.mapUpdate t m q x), none, none⟩ :: os) F s prev pend L k Q = stepE prog base d os F s prev pend L k Q (opMapUpdate s t (m.ev F) (q.ev F) (x.ev F)) := rfl
theorem o_app (z b : Nat) (x y : COpd) : opsK prog base (⟨d, .e (.append z b x y), none, none⟩ :: os) F s prev pend L k Q = stepE prog base d os F s prev pend L k Q (opAppend s z b (x.ev F) (y.ev F)) := rfl
theorem o_copy (z : Nat) (x y : COpd) : opsK prog base (⟨d, .e (.copy z x y), none, none⟩ :: os) F s prev pend L k Q = stepE prog base d os F s prev pend L k Q (opCopy s z (x.ev F) (y.ev F)) := rfl
theorem o_del (t : EqT) (m q : COpd) : opsK prog base (⟨d, .e (.delete t m q), none, none⟩ :: os) F s prev pend L k Q = stepE prog base d os F s prev pend L k Q (opDelete s t (m.ev F) (q.ev F)) := rfl

theorem stepP_some (v : Value) : stepP prog base d os F s prev pend L k Q (some v) = opsK prog base os (putO F d v) s prev pend L k Q := by simp [stepP]
theorem stepA_some (id : Nat) (v : Value) (ob : IObj) : stepA prog base d os F s prev pend L k Q id (some (v, ob)) = opsK prog base os (putO F d v) (s.put id ob) prev pend L k Q := by
  simp only [stepA, Option.some.injEq, Prod.mk.injEq, eq_iff_iff]
  exact ⟨fun ⟨_, _, ⟨h1, h2⟩, h⟩ => by subst h1 h2; exact h, fun h => ⟨_, _, ⟨rfl, rfl⟩, h⟩⟩
theorem stepE_some (v : Value) (s' : St) : stepE prog base d os F s prev [] L k Q (some (v, s')) = opsK prog base os (putO F d v) s' (s :: prev) [] L k Q := by
  simp only [stepE, Option.some.injEq, Prod.mk.injEq, eq_iff_iff]
  exact ⟨fun ⟨_, _, ⟨h1, h2⟩, _, h⟩ => by subst h1 h2; exact h, fun h => ⟨_, _, ⟨rfl, rfl⟩, rfl, h⟩⟩
theorem stepE_pend (v : Value) (s' : St) (x : Nat × Option Ld) : stepE prog base d os F s prev (x :: pend) L k Q (some (v, s')) =
    (pendOk s' (x :: pend) = true ∧ opsK prog base os (putO F d v) s' (s :: prev) (passed (x :: pend)) L k Q) := by
  simp only [stepE, Option.some.injEq, Prod.mk.injEq, eq_iff_iff]
  exact ⟨fun ⟨_, _, ⟨h1, h2⟩, h0, h⟩ => by subst h1 h2; exact ⟨h0, h⟩, fun h => ⟨_, _, ⟨rfl, rfl⟩, h⟩⟩
/-- A checked load: it is made. -/
theorem stepL.of {m n : Nat} {v p : Value} {c : Nat} {vs : List Value} (h : loadV s.get p c = some vs) (hp : prevOk m prev ⟨p, c, vs⟩ = true)
    (h2 : opsK prog base os (putO F d v) s prev (bif Nat.beq n 0 then pend else (n, some ⟨p, c, vs⟩) :: pend) L k Q) : stepL prog base d os F s prev pend L k Q m n (some v) (some (p, c)) :=
  ⟨v, p, c, vs, rfl, rfl, h, hp, h2⟩
theorem grdK_bool (c b : Bool) (op : COp) : grdK prog base d os F s prev pend L k Q (.bool c) b op = if c = b then opsK prog base (⟨d, op, none, none⟩ :: os) F s prev pend L k Q else
    (match op with
      | .e _ => pendOk s pend = true ∧ opsK prog base os (putO F d undf) s (s :: prev) (passed pend) L k Q
      | _ => opsK prog base os (putO F d undf) s prev pend L k Q) := by
  cases c <;> cases b <;> simp [grdK, wpG, opGuard]
theorem grdK_undf (b : Bool) (op : COp) : grdK prog base d os F s prev pend L k Q undf b op = 
    (match op with
      | .e _ => pendOk s pend = true ∧ opsK prog base os (putO F d undf) s (s :: prev) (passed pend) L k Q
      | _ => opsK prog base os (putO F d undf) s prev pend L k Q) := by
  simp [grdK, wpG, opGuard]

theorem callK.of {f : Value} {args : List Value} {v : Value} {s' : St} (h : Ret prog f args s v s') (hp : pendOk s' pend = true) (h2 : opsK prog base os (putO F d v) s' (s :: prev) (passed pend) L k Q) :
    callK prog f args base d os F s prev pend L k Q := ⟨v, s', h, hp, h2⟩
/-- No load waits. -/
theorem callK.of0 {f : Value} {args : List Value} {v : Value} {s' : St} (h : Ret prog f args s v s') (h2 : opsK prog base os (putO F d v) s' (s :: prev) [] L k Q) :
    callK prog f args base d os F s prev [] L k Q := ⟨v, s', h, rfl, h2⟩
end
end

theorem ret_pure {fid : Nat} {cf : CFunc} {args : List Value} {s : St} {Q : Value → Prop} (hp : prog fid = some (.fn cf)) (hpure : cf.pure = true) (hl : args.length ≤ cf.ntmps)
    (h : ∀ s0 : St, s0 = ⟨s.next, s.next, s.heap⟩ → wpK prog cf.body (argFr args 0) s0 [] (wpEnd cf.results fun v s' => ∃ v', settle s'.get s.next 8 v = some v' ∧ Q v')) :
    ∃ v, Ret prog (.func (.func fid) ⟨[]⟩ ⟨[]⟩) args s v s ∧ Q v := by
  obtain ⟨v, s', ⟨N, hN⟩, v', hs, hq⟩ := finish_of (h _ rfl)
  refine ⟨v', ⟨N + 1, fun n hn => ?_⟩, hq⟩
  obtain ⟨n, rfl⟩ : ∃ m, n = m + 1 := ⟨n - 1, by omega⟩
  simp only [callV, hp, runFn, hpure, cond_true, check, Nat.ble_eq_true_of_le hl, List.append_nil]
  rw [hN n (by omega)]
  simp [pureEnd, hs, fVal_eq]

theorem ret_fn {fid : Nat} {cf : CFunc} {cap args : List Value} {s : St} {Q : Value → St → Prop} (hp : prog fid = some (.fn cf)) (hpure : cf.pure = false) (hl : (args ++ cap).length ≤ cf.ntmps)
    (h : wpK prog cf.body (argFr (args ++ cap) 0) s [] (wpEnd cf.results Q)) : WCall prog (.func (.func fid) ⟨[]⟩ ⟨cap⟩) args s Q := wcall_fn hp hpure hl h

theorem kbb : ((¬ True) = False) ∧ ((¬ False) = True) ∧ ((true = false) = False) ∧ ((false = true) = False) ∧ ((!true) = false) ∧ ((!false) = true) := by simp
end Go.Ev

namespace Go.Ev

section frames
theorem putO_some (F : Fr) (i : Nat) (v : Value) : putO F (some i) v = upd F i v := rfl
theorem putO_none (F : Fr) (v : Value) : putO F none v = F := rfl
theorem restrict_nil (F : Fr) : restrict [] F = fun _ => unk := rfl
theorem restrict_cons (t : Nat) (L : List Nat) (F : Fr) : restrict (t :: L) F = upd (restrict L F) t (F t) := rfl
theorem argFr_nil (i : Nat) : argFr [] i = fun _ => undf := rfl
theorem argFr_cons (v : Value) (vs : List Value) (i : Nat) : argFr (v :: vs) i = upd (argFr vs (i + 1)) i v := rfl
theorem upd_ne' (F : Fr) {i j : Nat} (v : Value) (h : (j == i) = false) : upd F i v j = F j := upd_ne F v (by simpa using h)
theorem ev_tmp (F : Fr) (t : Nat) : (COpd.tmp t).ev F = F t := rfl
theorem ev_const (F : Fr) (v : Value) : (COpd.const v).ev F = v := rfl
theorem ev_func (F : Fr) (f : Nat) : (COpd.func f).ev F = .func (.func f) ⟨[]⟩ ⟨[]⟩ := rfl
theorem evArgs_nil (F : Fr) : evArgs F [] = [] := rfl
theorem evArgs_cons (F : Fr) (x : COpd) (r : List COpd) : evArgs F (x :: r) = x.ev F :: evArgs F r := rfl
theorem evParts_nil (F : Fr) : evParts F [] = [] := rfl
theorem evParts_cons (F : Fr) (o n : Nat) (x : COpd) (r : List (Nat × Nat × COpd)) : evParts F ((o, n, x) :: r) = (o, n, x.ev F) :: evParts F r := rfl
theorem evOpt_none (F : Fr) : evOpt F none = none := rfl
theorem evOpt_some (F : Fr) (x : COpd) : evOpt F (some x) = some (x.ev F) := rfl
end frames

section tests
theorem wpB_dec (p : Prop) [Decidable p] (X Y : Prop) : wpB (.bool (decide p)) X Y ↔ (p → X) ∧ (¬p → Y) := by
  by_cases h : p <;> simp [wpB, h]
theorem wpB_bool (b : Bool) (X Y : Prop) : wpB (.bool b) X Y ↔ (b = true → X) ∧ (b = false → Y) := by
  cases b <;> simp [wpB]
theorem wpG_dec (p : Prop) [Decidable p] (b : Bool) (X Y : Prop) : wpG (opGuard (.bool (decide p)) b) X Y ↔ ((decide p = b) → X) ∧ ((decide p = !b) → Y) := by
  by_cases h : p <;> cases b <;> simp [wpG, opGuard, h]
theorem wpG_bool (c b : Bool) (X Y : Prop) : wpG (opGuard (.bool c) b) X Y ↔ (c = b → X) ∧ (c = !b → Y) := by
  cases c <;> cases b <;> simp [wpG, opGuard]
theorem wpG_undf (b : Bool) (X Y : Prop) : wpG (opGuard undf b) X Y ↔ Y := by simp [wpG, opGuard]
theorem opPick_dec (p : Prop) [Decidable p] (a b : Value) : opPick (.bool (decide p)) a b = some (if p then a else b) := by
  by_cases h : p <;> simp [opPick, h]
theorem opPick_true (a b : Value) : opPick (.bool true) a b = some a := rfl
theorem opPick_false (a b : Value) : opPick (.bool false) a b = some b := rfl
end tests

section builds
theorem natbeq (a b : Nat) : Nat.beq a b = decide (a = b) := by
  cases h : Nat.beq a b with
  | true => simp [Nat.eq_of_beq_eq_true h]
  | false =>
    have : a ≠ b := fun e => by rw [e, Nat.beq_refl] at h; cases h
    simp [this]
theorem natble (a b : Nat) : Nat.ble a b = decide (a ≤ b) := by
  cases h : Nat.ble a b with
  | true => simp [Nat.le_of_ble_eq_true h]
  | false =>
    have : ¬ a ≤ b := fun e => by rw [Nat.ble_eq_true_of_le e] at h; cases h
    simp [this]
theorem vcells_int (k : IntKind) (n : Int) : vcells (.int k n) = [.int k n] := rfl
theorem vcells_bool (b : Bool) : vcells (.bool b) = [.bool b] := rfl
theorem vcells_ptr (p : Option Addr) : vcells (.pointer p) = [.pointer p] := rfl
theorem vcells_slice (p : Option Addr) (n c : Nat) : vcells (.slice p n c) = [.slice p n c] := rfl
theorem vcells_map (p : Option Nat) : vcells (.map p) = [.map p] := rfl
theorem vcells_agg (l : List Value) : vcells (.agg ⟨l⟩) = l := rfl
theorem vcells_of {v : Value} (h : oneCell v = true) : vcells v = [v] := by
  cases v <;> first | rfl | cases h
theorem one_int (k : IntKind) (n : Int) : oneCell (.int k n) = true := rfl
theorem one_bool (b : Bool) : oneCell (.bool b) = true := rfl
theorem one_ptr (p : Option Addr) : oneCell (.pointer p) = true := rfl
theorem one_slice (p : Option Addr) (n c : Nat) : oneCell (.slice p n c) = true := rfl
theorem one_map (p : Option Nat) : oneCell (.map p) = true := rfl
theorem parts_nil : partsOf [] = some [] := rfl
theorem parts_cons (o n : Nat) (v : Value) (r : List (Nat × Nat × Value)) : partsOf ((o, n, v) :: r) = if (vcells v).length = n ∧ (vcells v).all oneCell = true then (partsOf r).map ((o, vcells v) :: ·) else none := by
  simp only [partsOf, natbeq]
  by_cases h1 : (vcells v).length = n <;> cases h2 : (vcells v).all oneCell <;> simp [h1]
theorem fill_nil (c : List Value) : fill [] c = some c := rfl
theorem fill_cons (o : Nat) (vs : List Value) (r : List (Nat × List Value)) (c : List Value) : fill ((o, vs) :: r) c = (splice? o vs c).bind (fill r) := rfl
theorem splice_nil (l : List Value) : splice? 0 [] l = some l := by cases l <;> rfl
theorem splice_zero (v x : Value) (vs l : List Value) : splice? 0 (v :: vs) (x :: l) = (splice? 0 vs l).map (v :: ·) := rfl
theorem splice_succ (n : Nat) (vs : List Value) (x : Value) (l : List Value) : splice? (n + 1) vs (x :: l) = (splice? n vs l).map (x :: ·) := rfl
theorem reps_zero (l : List Value) : reps l 0 = [] := rfl
theorem reps_succ (l : List Value) (n : Nat) : reps l (n + 1) = l ++ reps l n := rfl
theorem opBuild_eq (zero : List Value) (parts : List (Nat × Nat × Value)) : opBuild zero parts = ((partsOf parts).bind fun p => fill p zero).map fun c => .agg ⟨c⟩ := rfl
theorem opBuildSlice_eq (id esz len : Nat) (zero : List Value) (parts : List (Nat × Nat × Value)) : opBuildSlice id esz len zero parts =
    ((partsOf parts).bind fun p => fill p (reps zero len)).map fun c => (.slice (some ⟨id, 0, none⟩) len esz, .cells false c) := rfl
theorem opBox_eq (id : Nat) (x : Value) : opBox id x = if (vcells x).all oneCell = true then some (.pointer (some ⟨id, 0, none⟩), .cells false (vcells x)) else none := by
  unfold opBox
  cases (vcells x).all oneCell <;> rfl
end builds

section ends
def endK (r : Option (List Value)) (s : St) (Q : Value → St → Prop) : Prop := ∃ vs, r = some vs ∧ Q (resVal vs) s
theorem end_ret (res : List CRes) (Q : Value → St → Prop) (F : Fr) (s : St) : wpEnd res Q .ret F s = endK (resVals F s res) s Q := rfl
theorem end_nrm (res : List CRes) (Q : Value → St → Prop) (F : Fr) (s : St) : wpEnd res Q .normal F s = endK (resVals F s res) s Q := rfl
theorem endK_some (vs : List Value) (s : St) (Q : Value → St → Prop) : endK (some vs) s Q = Q (resVal vs) s := by simp [endK]
theorem res_nil (F : Fr) (s : St) : resVals F s [] = some [] := rfl
theorem res_tmp (F : Fr) (s : St) (t : Nat) (r : List CRes) : resVals F s (.tmp t :: r) = (resVals F s r).map (F t :: ·) := rfl
theorem res_cell1 (F : Fr) (s : St) (a : Nat) (r : List CRes) : resVals F s (.cell1 a :: r) = (opLoad1 s.get (F a)).bind fun v => (resVals F s r).map (v :: ·) := rfl
theorem res_cellN (F : Fr) (s : St) (a n : Nat) (r : List CRes) : resVals F s (.cellN a n :: r) = (opLoadN s.get n (F a)).bind fun v => (resVals F s r).map (v :: ·) := rfl
theorem resVal_one (v : Value) : resVal [v] = v := rfl
theorem resVal_none : resVal [] = .tuple ⟨[]⟩ := rfl
theorem resVal_two (u v : Value) (l : List Value) : resVal (u :: v :: l) = .tuple ⟨u :: v :: l⟩ := rfl
end ends

section numbers
variable {a b : Int} {k : IntKind}
theorem wrap_i64 {n : Int} (h1 : -9223372036854775808 ≤ n) (h2 : n ≤ 9223372036854775807) : wrapQ .i64 n = n := by
  cases n with
  | ofNat m => simp only [wrapQ, Int.ofNat_eq_natCast] at *; rw [if_pos (by omega)]
  | negSucc m => simp only [wrapQ] at *; rw [if_pos (by omega)]
theorem wrap_u64 {n : Int} : wrapQ .u64 n = n % 18446744073709551616 := by
  cases n with
  | ofNat m => simp only [wrapQ, Int.ofNat_eq_natCast]; omega
  | negSucc m => simp only [wrapQ]
theorem bin_add64 (h1 : -9223372036854775808 ≤ a + b) (h2 : a + b ≤ 9223372036854775807) : opBin .add (.int .i64 a) (.int .i64 b) = some (.int .i64 (a + b)) := by
  simp [opBin, binII, binI, wrap_i64 h1 h2]
theorem bin_sub64 (h1 : -9223372036854775808 ≤ a - b) (h2 : a - b ≤ 9223372036854775807) : opBin .sub (.int .i64 a) (.int .i64 b) = some (.int .i64 (a - b)) := by
  simp [opBin, binII, binI, wrap_i64 h1 h2]
theorem bin_mul64 (h1 : -9223372036854775808 ≤ a * b) (h2 : a * b ≤ 9223372036854775807) : opBin .mul (.int .i64 a) (.int .i64 b) = some (.int .i64 (a * b)) := by
  simp [opBin, binII, binI, wrap_i64 h1 h2]
theorem bin_addu : opBin .add (.int .u64 a) (.int .u64 b) = some (.int .u64 ((a + b) % 18446744073709551616)) := by
  simp [opBin, binII, binI, wrap_u64]
theorem bin_subu : opBin .sub (.int .u64 a) (.int .u64 b) = some (.int .u64 ((a - b) % 18446744073709551616)) := by
  simp [opBin, binII, binI, wrap_u64]
theorem bin_mulu : opBin .mul (.int .u64 a) (.int .u64 b) = some (.int .u64 ((a * b) % 18446744073709551616)) := by
  simp [opBin, binII, binI, wrap_u64]
theorem bin_eql : opBin .eql (.int k a) (.int k b) = some (.bool (decide (a = b))) := by simp [opBin, binII, binI, decI]
theorem bin_neq : opBin .neq (.int k a) (.int k b) = some (.bool (decide (a ≠ b))) := by simp [opBin, binII, binI, decI]
theorem bin_lss : opBin .lss (.int k a) (.int k b) = some (.bool (decide (a < b))) := by simp [opBin, binII, binI, decI]
theorem bin_leq : opBin .leq (.int k a) (.int k b) = some (.bool (decide (a ≤ b))) := by simp [opBin, binII, binI, decI]
theorem bin_gtr : opBin .gtr (.int k a) (.int k b) = some (.bool (decide (a > b))) := by simp [opBin, binII, binI, decI]
theorem bin_geq : opBin .geq (.int k a) (.int k b) = some (.bool (decide (a ≥ b))) := by simp [opBin, binII, binI, decI]
theorem un_not (c : Bool) : opUn .not (.bool c) = some (.bool (!c)) := rfl
theorem un_neg64 (h1 : -9223372036854775808 ≤ -a) (h2 : -a ≤ 9223372036854775807) : opUn .neg (.int .i64 a) = some (.int .i64 (-a)) := by
  have : 0 - a = -a := by omega
  simp [opUn, wrap_i64 h1 h2]
theorem un_negu : opUn .neg (.int .u64 a) = some (.int .u64 ((-a) % 18446744073709551616)) := by
  simp [opUn, wrap_u64]
theorem conv_64 {k' : IntKind} (h1 : -9223372036854775808 ≤ a) (h2 : a ≤ 9223372036854775807) : opConv .i64 (.int k' a) = some (.int .i64 a) := by simp [opConv, wrap_i64 h1 h2]
theorem conv_u {k' : IntKind} : opConv .u64 (.int k' a) = some (.int .u64 (a % 18446744073709551616)) := by simp [opConv, wrap_u64]
end numbers

section states
def Fresh (s : St) : Prop := ∀ i, s.next ≤ i → s.get i = none
/-- A state behind another one: what was there is there still. -/
structure Later (s s' : St) : Prop where
  next : s.next ≤ s'.next
  get : ∀ i, i < s.next → s'.get i = s.get i
variable {s s' : St}
theorem Later.refl (s : St) : Later s s := ⟨Nat.le_refl _, fun _ _ => rfl⟩
theorem Later.trans {a b c : St} (h : Later a b) (k : Later b c) : Later a c :=
  ⟨Nat.le_trans h.next k.next, fun i hi => (k.get i (Nat.lt_of_lt_of_le hi h.next)).trans (h.get i hi)⟩
theorem Later.put (h : Later s s') {b : Nat} {o : IObj} (hb : s.next ≤ b) : Later s (s'.put b o) :=
  ⟨h.next, fun i hi => by rw [St.get_put, if_neg (by omega)]; exact h.get i hi⟩
theorem Later.bump (h : Later s s') (n : Nat) : Later s (s'.bump n) := ⟨by have := h.next; simp; omega, fun i hi => h.get i hi⟩
theorem Later.callee (s : St) : Later s ⟨s.next, s.next, s.heap⟩ := ⟨Nat.le_refl _, fun _ _ => rfl⟩
theorem Fresh.put (h : Fresh s) {b : Nat} {o : IObj} (hb : b < s.next) : Fresh (s.put b o) := fun i hi => by
  have hi' : s.next ≤ i := hi
  rw [St.get_put, if_neg (by omega)]; exact h i hi'
theorem Fresh.bump (h : Fresh s) (n : Nat) : Fresh (s.bump n) := fun i hi => h i (by simp at hi; omega)
end states

theorem bif_some' {α : Type} {b : Bool} {x : Option α} {v : α} (h : (bif b then x else none) = some v) : b = true ∧ x = some v := by
  cases b with
  | false => cases h
  | true => exact ⟨rfl, h⟩

theorem drop?_eq' {α : Type} : ∀ (n : Nat) (l : List α), drop? n l = if n ≤ l.length then some (l.drop n) else none
  | 0, l => by simp [drop?]
  | n + 1, [] => by simp [drop?]
  | n + 1, x :: l => by simp [drop?, drop?_eq' n l]
theorem take?_eq' {α : Type} : ∀ (n : Nat) (l : List α), take? n l = if n ≤ l.length then some (l.take n) else none
  | 0, l => by simp [take?]
  | n + 1, [] => by simp [take?]
  | n + 1, x :: l => by
    simp only [take?, take?_eq' n l]
    by_cases h : n ≤ l.length
    · simp [h]
    · simp [h]
theorem cut_eq {α : Type} {o n : Nat} {l : List α} (h : o + n ≤ l.length) : (drop? o l).bind (take? n) = some ((l.drop o).take n) := by
  rw [drop?_eq', if_pos (by omega), Option.bind_some, take?_eq', if_pos (by rw [List.length_drop]; omega)]
theorem splice?_eq' {α : Type} : ∀ (o : Nat) (vs l : List α), splice? o vs l = if o + vs.length ≤ l.length then some (l.take o ++ vs ++ l.drop (o + vs.length)) else none
  | 0, [], l => by simp [splice?]
  | 0, v :: vs, [] => by simp [splice?]
  | 0, v :: vs, x :: l => by
    simp only [splice?, splice?_eq' 0 vs l]
    by_cases h : 0 + vs.length ≤ l.length
    · rw [if_pos h, if_pos (by simp at h ⊢; omega)]
      simp
    · rw [if_neg h, if_neg (by simp at h ⊢; omega)]
      rfl
  | n + 1, vs, [] => by simp [splice?]
  | n + 1, vs, x :: l => by
    simp only [splice?, splice?_eq' n vs l]
    by_cases h : n + vs.length ≤ l.length
    · rw [if_pos h, if_pos (by simp; omega)]
      have : n + 1 + vs.length = (n + vs.length) + 1 := by omega
      simp [this]
    · rw [if_neg h, if_neg (by simp; omega)]
      rfl

section rows
/-- A slice of elements, of z cells each. -/
structure Row (g : Get) (z : Nat) (v : Value) (es : List (List Value)) : Prop where
  pos : 0 < z
  each : ∀ e ∈ es, e.length = z
  is : (v = .slice none 0 0 ∧ es = []) ∨
    (∃ b o ro cc, v = .slice (some ⟨b, o, none⟩) es.length z ∧ g b = some (.cells ro cc) ∧ o + es.length * z ≤ cc.length ∧ es.flatten = (cc.drop o).take (es.length * z)) ∨
    (∃ vs, v = .iface z (.agg ⟨vs⟩) ∧ vs.map vcells = es)

/-- The same, from a state on. -/
def RowL (s : St) (z : Nat) (v : Value) (es : List (List Value)) : Prop := ∀ s', Later s s' → Row s'.get z v es
/-- The same, whatever memory holds. -/
def Im (z : Nat) (v : Value) (es : List (List Value)) : Prop := ∀ g, Row g z v es

theorem Row.later {s s' : St} (hf : Fresh s) {z : Nat} {v : Value} {es : List (List Value)} (h : Row s.get z v es) (hl : Later s s') : Row s'.get z v es := by
  refine ⟨h.pos, h.each, ?_⟩
  rcases h.is with h1 | ⟨b, o, ro, cc, h1, h2, h3⟩ | h1
  · exact .inl h1
  · have hb : b < s.next := by
      rcases Nat.lt_or_ge b s.next with hlt | hge
      · exact hlt
      · rw [hf b hge] at h2; cases h2
    exact .inr (.inl ⟨b, o, ro, cc, h1, by rw [hl.get b hb]; exact h2, h3⟩)
  · exact .inr (.inr h1)
theorem Row.rowL {s : St} (hf : Fresh s) {z : Nat} {v : Value} {es : List (List Value)} (h : Row s.get z v es) : RowL s z v es := fun _ hl => h.later hf hl
theorem Im.rowL {s : St} {z : Nat} {v : Value} {es : List (List Value)} (h : Im z v es) : RowL s z v es := fun _ _ => h _
theorem RowL.row {s : St} {z : Nat} {v : Value} {es : List (List Value)} (h : RowL s z v es) : Row s.get z v es := h s (Later.refl s)
theorem RowL.later {s s' : St} {z : Nat} {v : Value} {es : List (List Value)} (h : RowL s z v es) (hl : Later s s') : RowL s' z v es := fun _ k => h _ (hl.trans k)

/-- Where an element lies. -/
def idx (z : Nat) (v : Value) (i : Nat) : Value :=
  match v with
  | .slice (some a) _ _ => .pointer (some (addA a (i * z)))
  | .iface _ (.agg ⟨es⟩) => .iface 0 (.tuple ⟨vcells (es.getD i undf)⟩)
  | _ => undf
def padd (off : Nat) (p : Value) : Value :=
  match p with
  | .pointer (some a) => .pointer (some (addA a off))
  | .iface o (.tuple c) => .iface (o + off) (.tuple c)
  | _ => undf
def sub (z : Nat) (v : Value) (l h : Nat) : Value :=
  match v with
  | .slice (some a) _ _ => .slice (some (addA a (l * z))) (h - l) z
  | .iface z' (.agg ⟨es⟩) => .iface z' (.agg ⟨(es.take h).drop l⟩)
  | v => v

variable {g : Get} {z : Nat} {v : Value} {es : List (List Value)}

theorem flatten_len {z : Nat} : ∀ {es : List (List Value)}, (∀ e ∈ es, e.length = z) → es.flatten.length = es.length * z
  | [], _ => by simp
  | e :: es, h => by
    rw [List.flatten_cons, List.length_append, h e List.mem_cons_self, flatten_len (fun e he => h e (List.mem_cons_of_mem _ he)), List.length_cons, Nat.add_mul]
    omega
theorem flatten_drop {z : Nat} : ∀ (l : Nat) {es : List (List Value)}, (∀ e ∈ es, e.length = z) → (es.drop l).flatten = es.flatten.drop (l * z)
  | 0, es, _ => by simp
  | l + 1, [], _ => by simp
  | l + 1, e :: es, h => by
    have he := h e List.mem_cons_self
    rw [List.drop_succ_cons, List.flatten_cons, flatten_drop l (fun e he => h e (List.mem_cons_of_mem _ he)), List.drop_append]
    have e1 : (l + 1) * z - e.length = l * z := by rw [he, Nat.add_mul]; omega
    have e2 : e.drop ((l + 1) * z) = [] := List.drop_eq_nil_of_le (by rw [he, Nat.add_mul]; omega)
    rw [e1, e2, List.nil_append]
theorem flatten_take {z : Nat} : ∀ (l : Nat) {es : List (List Value)}, (∀ e ∈ es, e.length = z) → (es.take l).flatten = es.flatten.take (l * z)
  | 0, es, _ => by simp
  | l + 1, [], _ => by simp
  | l + 1, e :: es, h => by
    have he := h e List.mem_cons_self
    rw [List.take_succ_cons, List.flatten_cons, List.flatten_cons, flatten_take l (fun e he => h e (List.mem_cons_of_mem _ he)), List.take_append]
    have e1 : (l + 1) * z - e.length = l * z := by rw [he, Nat.add_mul]; omega
    have e2 : e.take ((l + 1) * z) = e := List.take_of_length_le (by rw [he, Nat.add_mul]; omega)
    rw [e1, e2]
theorem flatten_at {z : Nat} {es : List (List Value)} (h : ∀ e ∈ es, e.length = z) {i : Nat} (hi : i < es.length) : (es.flatten.drop (i * z)).take z = es.getD i [] := by
  rw [← flatten_drop i h]
  have hd : es.drop i = es[i] :: es.drop (i + 1) := List.drop_eq_getElem_cons hi
  rw [hd, List.flatten_cons]
  have : es[i].length = z := h _ (List.getElem_mem hi)
  rw [List.take_left' this]
  simp [List.getD, hi]

theorem Row.len (h : Row g z v es) : opLen v = some (.int .i64 es.length) := by
  rcases h.is with ⟨rfl, rfl⟩ | ⟨b, o, ro, cc, rfl, _⟩ | ⟨vs, rfl, rfl⟩
  · rfl
  · rfl
  · simp [opLen]

theorem Row.src (h : Row g z v es) : srcOf g z v = some (es.flatten, es.length) := by
  rcases h.is with ⟨rfl, rfl⟩ | ⟨b, o, ro, cc, rfl, h1, h2, h3⟩ | ⟨vs, rfl, rfl⟩
  · rfl
  · simp only [srcOf, loadV, h1, Nat.beq_refl, cond_true, cut_eq h2, h3, Option.map_some]
  · simp [srcOf, List.flatMap]

theorem Row.addr (h : Row g z v es) {k : IntKind} {i : Int} (h0 : 0 ≤ i) (hi : i < es.length) : opIndexAddr z v (.int k i) = some (idx z v i.toNat) := by
  obtain ⟨n, rfl⟩ := Int.eq_ofNat_of_zero_le h0
  have hn : n < es.length := by omega
  rcases h.is with ⟨rfl, rfl⟩ | ⟨b, o, ro, cc, rfl, h1, h2, h3⟩ | ⟨vs, rfl, rfl⟩
  · simp at hn
  · have : Nat.ble (n + 1) es.length = true := Nat.ble_eq_true_of_le hn
    simp [opIndexAddr, idx, this]
  · have hn' : n < vs.length := by simpa using hn
    simp [opIndexAddr, idx, hn', List.getD]

theorem Row.cellsAt (h : Row g z v es) {i off n : Nat} (hi : i < es.length) (ho : off + n ≤ z) : loadV g (padd off (idx z v i)) n = some (((es.getD i []).drop off).take n) := by
  have hel : (es.getD i []).length = z := by
    have : es.getD i [] = es[i] := by simp [List.getD, hi]
    rw [this]; exact h.each _ (List.getElem_mem hi)
  rcases h.is with ⟨rfl, rfl⟩ | ⟨b, o, ro, cc, rfl, h1, h2, h3⟩ | ⟨vs, rfl, rfl⟩
  · simp at hi
  · have hiz : i * z + z ≤ es.length * z := by
      have : (i + 1) * z ≤ es.length * z := Nat.mul_le_mul_right z hi
      rw [Nat.add_mul] at this
      omega
    have hat := flatten_at h.each hi
    rw [h3] at hat
    rw [← hat]
    simp only [loadV, idx, padd, addA, h1]
    rw [cut_eq (by omega)]
    congr 1
    rw [List.drop_take, List.take_take, List.drop_take, List.drop_take, List.take_take, List.drop_drop, List.drop_drop]
    congr 1
    · omega
    · rw [Nat.add_assoc]
  · have hi' : i < vs.length := by simpa using hi
    have e1 : vcells (vs.getD i undf) = (vs.map vcells).getD i [] := by simp [List.getD, hi']
    rw [← e1] at hel ⊢
    simp only [loadV, idx, padd, Nat.zero_add]
    rw [cut_eq (by omega)]

theorem padd_zero (z : Nat) (v : Value) (i : Nat) : padd 0 (idx z v i) = idx z v i := by
  unfold idx
  split <;> simp [padd, addA]

theorem padd_padd (a b : Nat) (p : Value) : padd a (padd b p) = padd (b + a) p := by
  cases p <;> try rfl
  · rename_i a
    cases a with
    | none => rfl
    | some a => simp [padd, addA, Nat.add_assoc]
  · rename_i o c
    cases c <;> first | rfl | simp [padd, Nat.add_assoc]

theorem Row.isPtr (h : Row g z v es) {i : Nat} (hi : i < es.length) : (∃ a, idx z v i = .pointer (some a)) ∨ ∃ o c, idx z v i = .iface o (.tuple c) := by
  rcases h.is with ⟨rfl, rfl⟩ | ⟨b, o, ro, cc, rfl, h1, h2, h3⟩ | ⟨vs, rfl, rfl⟩
  · simp at hi
  · exact .inl ⟨_, rfl⟩
  · exact .inr ⟨_, _, rfl⟩

theorem Row.fld (h : Row g z v es) {i off off2 : Nat} (hi : i < es.length) : opFieldAddr off2 (padd off (idx z v i)) = some (padd (off + off2) (idx z v i)) := by
  rcases h.isPtr hi with ⟨a, e⟩ | ⟨o, c, e⟩ <;> rw [e] <;> simp [padd, opFieldAddr, addA, Nat.add_assoc]
theorem Row.fld0 (h : Row g z v es) {i off2 : Nat} (hi : i < es.length) : opFieldAddr off2 (idx z v i) = some (padd off2 (idx z v i)) := by
  rcases h.isPtr hi with ⟨a, e⟩ | ⟨o, c, e⟩ <;> rw [e] <;> simp [padd, opFieldAddr]

theorem Row.load (h : Row g z v es) {i off : Nat} (hi : i < es.length) (ho : off < z) : opLoad1 g (padd off (idx z v i)) = some ((es.getD i []).getD off undf) := by
  have hel : (es.getD i []).length = z := by
    have : es.getD i [] = es[i] := by simp [List.getD, hi]
    rw [this]; exact h.each _ (List.getElem_mem hi)
  have := h.cellsAt (off := off) (n := 1) hi (by omega)
  generalize es.getD i [] = e at this hel ⊢
  have h2 : (e.drop off).take 1 = [e.getD off undf] := by
    have hlt : off < e.length := by omega
    rw [List.drop_eq_getElem_cons hlt, List.take_succ_cons, List.take_zero]
    simp [List.getD, hlt]
  rw [h2] at this
  simp [opLoad1, this]
theorem Row.load0 (h : Row g z v es) {i : Nat} (hi : i < es.length) : opLoad1 g (idx z v i) = some ((es.getD i []).getD 0 undf) := by
  have := h.load (off := 0) hi h.pos
  rwa [padd_zero] at this
theorem Row.loadN (h : Row g z v es) {i off n : Nat} (hi : i < es.length) (ho : off + n ≤ z) : opLoadN g n (padd off (idx z v i)) = some (.agg ⟨((es.getD i []).drop off).take n⟩) := by
  simp [opLoadN, h.cellsAt hi ho]
theorem Row.loadN0 (h : Row g z v es) {i : Nat} (hi : i < es.length) : opLoadN g z (idx z v i) = some (.agg ⟨es.getD i []⟩) := by
  have hel : (es.getD i []).length = z := by
    have : es.getD i [] = es[i] := by simp [List.getD, hi]
    rw [this]; exact h.each _ (List.getElem_mem hi)
  have := h.loadN (off := 0) (n := z) hi (by omega)
  rw [padd_zero] at this
  rw [this]
  simp only [List.drop_zero]
  rw [List.take_of_length_le (by omega)]

theorem boundO_some {x : Int} {k : IntKind} {d m : Nat} (h0 : 0 ≤ x) (h1 : x ≤ m) : boundO (some (.int k x)) d m = some x.toNat := by
  obtain ⟨n, rfl⟩ := Int.eq_ofNat_of_zero_le h0
  have : Nat.ble n m = true := Nat.ble_eq_true_of_le (by omega)
  simp [boundO, bound, this]
theorem boundO_none {d m : Nat} : boundO none d m = some d := rfl

theorem Row.slice (h : Row g z v es) {lo hi : Option Value} {l m : Nat} (h1 : boundO hi es.length es.length = some m) (h2 : boundO lo 0 m = some l) : opSlice z v lo hi = some (sub z v l m) := by
  rcases h.is with ⟨rfl, rfl⟩ | ⟨b, o, ro, cc, rfl, h3, h4, h5⟩ | ⟨vs, rfl, rfl⟩
  · have h1 : boundO hi 0 0 = some m := h1
    simp [opSlice, h1, h2, sub]
  · simp [opSlice, h1, h2, sub]
  · have h1 : boundO hi vs.length vs.length = some m := by simpa using h1
    simp [opSlice, h1, h2, sub]

theorem Row.sliceHi (h : Row g z v es) {k : IntKind} {i : Int} (h0 : 0 ≤ i) (h1 : i ≤ es.length) : opSlice z v none (some (.int k i)) = some (sub z v 0 i.toNat) :=
  h.slice (boundO_some h0 h1) boundO_none
theorem Row.sliceLo (h : Row g z v es) {k : IntKind} {i : Int} (h0 : 0 ≤ i) (h1 : i ≤ es.length) : opSlice z v (some (.int k i)) none = some (sub z v i.toNat es.length) :=
  h.slice boundO_none (boundO_some h0 h1)
theorem Row.sliceB (h : Row g z v es) {k k' : IntKind} {i j : Int} (h0 : 0 ≤ i) (h1 : i ≤ j) (h2 : j ≤ es.length) : opSlice z v (some (.int k i)) (some (.int k' j)) = some (sub z v i.toNat j.toNat) :=
  h.slice (boundO_some (by omega) h2) (boundO_some h0 (by omega))

theorem Row.sub (h : Row g z v es) {l m : Nat} (h1 : l ≤ m) (h2 : m ≤ es.length) : Row g z (sub z v l m) ((es.take m).drop l) := by
  have hlen : ((es.take m).drop l).length = m - l := by simp; omega
  refine ⟨h.pos, fun e he => h.each e (List.mem_of_mem_take (List.mem_of_mem_drop he)), ?_⟩
  rcases h.is with ⟨rfl, rfl⟩ | ⟨b, o, ro, cc, rfl, h3, h4, h5⟩ | ⟨vs, rfl, rfl⟩
  · exact .inl ⟨rfl, by simp⟩
  · refine .inr (.inl ⟨b, o + l * z, ro, cc, by rw [hlen]; rfl, h3, ?_, ?_⟩)
    · rw [hlen]
      have : l * z + (m - l) * z ≤ es.length * z := by
        rw [← Nat.add_mul]
        exact Nat.mul_le_mul_right z (by omega)
      omega
    · rw [hlen, flatten_drop l (fun e he => h.each e (List.mem_of_mem_take he)), flatten_take m h.each, h5]
      have hm : m * z ≤ es.length * z := Nat.mul_le_mul_right z h2
      rw [List.take_take, List.drop_take, List.drop_drop]
      congr 1
      rw [Nat.min_eq_left hm, ← Nat.sub_mul]
  · refine .inr (.inr ⟨(vs.take m).drop l, rfl, ?_⟩)
    simp [List.map_drop, List.map_take]
theorem sub_sub {l m l' m' : Nat} (h : Row g z v es) (h1 : l ≤ m) (h2 : m ≤ es.length) (h3 : l' ≤ m') (h4 : m' ≤ m - l) : Ev.sub z (Ev.sub z v l m) l' m' = Ev.sub z v (l + l') (l + m') := by
  rcases h.is with ⟨rfl, rfl⟩ | ⟨b, o, ro, cc, rfl, h3, h4, h5⟩ | ⟨vs, rfl, rfl⟩
  · rfl
  · simp only [Ev.sub, addA, Nat.add_mul, Nat.add_assoc]
    congr 1
    omega
  · simp only [Ev.sub]
    congr 3
    rw [List.take_drop, List.take_take, List.drop_drop]
    congr 1
    congr 1
    omega
end rows

section settle
/-- A value in which no block takes part, up to a depth. -/
def Stl (d : Nat) (v : Value) : Prop := ∀ g base f, d ≤ f → settle g base f v = some v
theorem Stl.up {d d' : Nat} {v : Value} (h : Stl d v) (hd : d ≤ d') : Stl d' v := fun g base f hf => h g base f (Nat.le_trans hd hf)
theorem stl_int (k : IntKind) (n : Int) : Stl 1 (.int k n) := fun g base f hf => by
  obtain ⟨f, rfl⟩ : ∃ m, f = m + 1 := ⟨f - 1, by omega⟩
  rfl
theorem stl_bool (b : Bool) : Stl 1 (.bool b) := fun g base f hf => by
  obtain ⟨f, rfl⟩ : ∃ m, f = m + 1 := ⟨f - 1, by omega⟩
  rfl
theorem stl_nil : Stl 1 (.slice none 0 0) := fun g base f hf => by
  obtain ⟨f, rfl⟩ : ∃ m, f = m + 1 := ⟨f - 1, by omega⟩
  rfl
theorem stl_list {d : Nat} {g : Get} {base f : Nat} (hf : d ≤ f) : ∀ {l : List Value}, (∀ v ∈ l, Stl d v) → settleL (settle g base f) l = some l
  | [], _ => rfl
  | v :: l, h => by
    simp only [settleL]
    rw [h v List.mem_cons_self g base f hf, Option.bind_some, stl_list hf (fun v hv => h v (List.mem_cons_of_mem _ hv))]
    rfl
theorem stl_agg {d : Nat} {l : List Value} (h : ∀ v ∈ l, Stl d v) : Stl (d + 1) (.agg ⟨l⟩) := fun g base f hf => by
  obtain ⟨f, rfl⟩ : ∃ m, f = m + 1 := ⟨f - 1, by omega⟩
  simp only [settle]
  rw [stl_list (by omega) h]
  rfl
theorem stl_tuple {d : Nat} {l : List Value} (h : ∀ v ∈ l, Stl d v) : Stl (d + 1) (.tuple ⟨l⟩) := fun g base f hf => by
  obtain ⟨f, rfl⟩ : ∃ m, f = m + 1 := ⟨f - 1, by omega⟩
  simp only [settle]
  rw [stl_list (by omega) h]
  rfl

theorem vcells_oneCell {v : Value} (h : oneCell v = true) : vcells v = [v] := by
  cases v <;> first | rfl | cases h

theorem chunk_eq {z : Nat} (hz : 1 ≤ z) : ∀ {es : List (List Value)}, (∀ e ∈ es, e.length = z) → chunk z es.flatten es.length = some (es.map fun e => bif Nat.beq z 1 then e.headD unk else .agg ⟨e⟩)
  | [], _ => rfl
  | e :: es, h => by
    have he := h e List.mem_cons_self
    have hle : z ≤ (e ++ es.flatten).length := by rw [List.length_append]; omega
    simp only [List.length_cons, chunk, List.flatten_cons, take?_eq', drop?_eq', if_pos hle, Option.bind_some]
    rw [List.take_left' he, List.drop_left' he, chunk_eq hz (fun e he => h e (List.mem_cons_of_mem _ he))]
    rfl

/-- A row, laid down for good: an old one stays, any other is one whatever memory holds. -/
theorem settle_row {s : St} {base z d f : Nat} {v : Value} {es : List (List Value)} (h : Row s.get z v es) (hc : ∀ e ∈ es, ∀ c ∈ e, oneCell c = true ∧ Stl d c) (hf : d + 2 ≤ f) :
    ∃ v', settle s.get base f v = some v' ∧ ((∃ a n z, v = .slice (some a) n z ∧ a.block < base ∧ v' = v) ∨
      Im z v' es ∧ Stl (d + 2) v' ∧ oneCell v' = true ∧ ((∀ a n z, v ≠ .slice (some a) n z) → v' = v)) := by
  obtain ⟨f, rfl⟩ : ∃ m, f = m + 1 := ⟨f - 1, by omega⟩
  have elems : ∀ {vs : List Value}, vs.map vcells = es → (∀ v ∈ vs, Stl (d + 1) v) → Im z (.iface z (.agg ⟨vs⟩)) es ∧ Stl (d + 2) (.iface z (.agg ⟨vs⟩)) := by
    intro vs hv hs
    refine ⟨fun g => ⟨h.pos, h.each, .inr (.inr ⟨vs, rfl, hv⟩)⟩, fun g base f hf => ?_⟩
    obtain ⟨f, rfl⟩ : ∃ m, f = m + 1 := ⟨f - 1, by omega⟩
    have : vs.all (fun e => Nat.beq (vcells e).length z) = true := by
      rw [List.all_eq_true]
      intro e he
      have := h.each (vcells e) (by rw [← hv]; exact List.mem_map.2 ⟨e, he, rfl⟩)
      rw [this, Nat.beq_refl]
    simp only [settle]
    rw [stl_list (d := d + 1) (by omega) hs, Option.bind_some, slimS, this]
    rfl
  rcases h.is with ⟨rfl, rfl⟩ | ⟨b, o, ro, cc, rfl, h1, h2, h3⟩ | ⟨vs, rfl, hv⟩
  · exact ⟨_, rfl, .inr ⟨fun g => ⟨h.pos, h.each, .inl ⟨rfl, rfl⟩⟩, stl_nil.up (by omega), rfl, fun _ => rfl⟩⟩
  · by_cases hb : b < base
    · refine ⟨_, ?_, .inl ⟨_, _, _, rfl, hb, rfl⟩⟩
      simp only [settle, Nat.ble_eq_true_of_le (show b + 1 ≤ base from hb), cond_true]
    · have hnb : Nat.ble (b + 1) base = false := by
        cases hq : Nat.ble (b + 1) base with
        | false => rfl
        | true => have := Nat.le_of_ble_eq_true hq; omega
      let vs := es.map fun e => bif Nat.beq z 1 then e.headD unk else .agg ⟨e⟩
      have hvc : vs.map vcells = es := by
        rw [List.map_map]
        conv => rhs; rw [← List.map_id es]
        refine List.map_congr_left fun e he => ?_
        cases hz : Nat.beq z 1 with
        | false => rfl
        | true =>
          have hz := Nat.eq_of_beq_eq_true hz
          have hl := h.each e he
          rw [hz] at hl
          match e, hl with
          | [c], _ => exact vcells_oneCell (hc [c] he c List.mem_cons_self).1
      have hvs : ∀ v ∈ vs, Stl (d + 1) v := by
        intro v hv
        obtain ⟨e, he, rfl⟩ := List.mem_map.1 hv
        cases hz : Nat.beq z 1 with
        | false => exact stl_agg fun c hcm => (hc e he c hcm).2
        | true =>
          have hz := Nat.eq_of_beq_eq_true hz
          have hl := h.each e he
          rw [hz] at hl
          match e, hl with
          | [c], _ => exact ((hc [c] he c List.mem_cons_self).2).up (by omega)
      obtain ⟨i1, i2⟩ := elems hvc hvs
      refine ⟨_, ?_, .inr ⟨i1, i2, rfl, fun hh => absurd rfl (hh _ _ _)⟩⟩
      have hload : loadV s.get (.pointer (some ⟨b, o, none⟩)) (es.length * z) = some es.flatten := by
        simp only [loadV, h1, cut_eq h2, h3]
      have hone : es.flatten.all oneCell = true := by
        rw [List.all_eq_true]
        intro c hcm
        obtain ⟨e, he, hce⟩ := List.mem_flatten.1 hcm
        exact (hc e he c hce).1
      have hall : vs.all (fun e => Nat.beq (vcells e).length z) = true := by
        rw [List.all_eq_true]
        intro e he
        have := h.each (vcells e) (by rw [← hvc]; exact List.mem_map.2 ⟨e, he, rfl⟩)
        rw [this, Nat.beq_refl]
      simp only [settle, hnb, cond_false, hload, Option.bind_some, hone, Nat.ble_eq_true_of_le h.pos, Bool.and_self, cond_true]
      rw [chunk_eq h.pos h.each, Option.bind_some, stl_list (d := d + 1) (by omega) hvs, Option.bind_some, slimS, hall]
      rfl
  · have hvs : ∀ v ∈ vs, Stl (d + 1) v := by
      intro v hvm
      have he : vcells v ∈ es := by rw [← hv]; exact List.mem_map.2 ⟨v, hvm, rfl⟩
      by_cases hagg : ∃ l, v = .agg ⟨l⟩
      · obtain ⟨l, rfl⟩ := hagg
        exact stl_agg fun c hcm => (hc _ he c hcm).2
      · have hve : vcells v = [v] := by
          cases v <;> first | rfl | (rename_i l; obtain ⟨l⟩ := l; exact absurd ⟨l, rfl⟩ hagg)
        exact ((hc _ he v (by rw [hve]; exact List.mem_cons_self)).2).up (by omega)
    obtain ⟨i1, i2⟩ := elems hv hvs
    exact ⟨_, i2 _ _ _ (by omega), .inr ⟨i1, i2, rfl, fun _ => rfl⟩⟩
theorem RowL.old {s : St} {z : Nat} {v : Value} {es : List (List Value)} (h : RowL s z v es) {a : Addr} {n m : Nat} (hv : v = .slice (some a) n m) : a.block < s.next := by
  rcases Nat.lt_or_ge a.block s.next with hlt | hge
  · exact hlt
  · have hr := h (s.put a.block .dead) ((Later.refl s).put hge)
    subst hv
    rcases hr.is with ⟨h1, _⟩ | ⟨b, o, ro, cc, h1, h2, _⟩ | ⟨vs, h1, _⟩
    · cases h1
    · cases h1
      rw [St.get_put, if_pos rfl] at h2
      cases h2
    · cases h1

/-- What a pure function was handed, it may hand back. -/
theorem RowL.stays {s s' : St} {z d f : Nat} {v : Value} {es : List (List Value)} (h : RowL s z v es) (hl : Later s s') (hc : ∀ e ∈ es, ∀ c ∈ e, oneCell c = true ∧ Stl d c) (hf : d + 2 ≤ f) :
    settle s'.get s.next f v = some v := by
  obtain ⟨v', h1, ⟨a, n, z, rfl, h2, rfl⟩ | ⟨_, _, _, h5⟩⟩ := settle_row (base := s.next) (h s' hl) hc hf
  · exact h1
  · by_cases hv : ∃ a n z, v = .slice (some a) n z
    · obtain ⟨a, n, m, rfl⟩ := hv
      have hb := h.old rfl
      obtain ⟨f, rfl⟩ : ∃ m, f = m + 1 := ⟨f - 1, by omega⟩
      obtain ⟨b, o, sp⟩ := a
      have hsp : sp = none := by
        rcases h.row.is with ⟨h1, _⟩ | ⟨b, o, ro, cc, h1, h2, _⟩ | ⟨vs, h1, _⟩ <;> cases h1
        rfl
      subst hsp
      simp only [settle, Nat.ble_eq_true_of_le (show b + 1 ≤ s.next from hb), cond_true]
    · rw [h1, h5 (fun a n z e => hv ⟨a, n, z, e⟩)]

theorem Row.subFull {g : Get} {z : Nat} {v : Value} {es : List (List Value)} (h : Row g z v es) : Ev.sub z v 0 es.length = v := by
  rcases h.is with ⟨rfl, rfl⟩ | ⟨b, o, ro, cc, rfl, _⟩ | ⟨vs, rfl, rfl⟩
  · rfl
  · simp [Ev.sub, addA]
  · simp [Ev.sub]
theorem RowL.sub {s : St} {z : Nat} {v : Value} {es : List (List Value)} (h : RowL s z v es) {l m : Nat} (h1 : l ≤ m) (h2 : m ≤ es.length) : RowL s z (Ev.sub z v l m) ((es.take m).drop l) :=
  fun s' hl => (h s' hl).sub h1 h2
theorem bump_zero (s : St) : s.bump 0 = s := rfl
end settle
section memory
variable {g : Get} {b o n z j : Nat} {ro : Bool} {cs : List Value}
theorem sl_addr {k : IntKind} {i : Int} (h0 : 0 ≤ i) (h1 : i < n) : opIndexAddr z (.slice (some ⟨b, o, none⟩) n z) (.int k i) = some (.pointer (some ⟨b, o + i.toNat * z, none⟩)) := by
  obtain ⟨m, rfl⟩ := Int.eq_ofNat_of_zero_le h0
  have : Nat.ble (m + 1) n = true := Nat.ble_eq_true_of_le (by omega)
  simp [opIndexAddr, this, addA]
theorem loadV_at {m : Nat} (hg : g b = some (.cells ro cs)) (h : j + m ≤ cs.length) : loadV g (.pointer (some ⟨b, j, none⟩)) m = some ((cs.drop j).take m) := by
  simp only [loadV, hg, cut_eq h]
theorem load1_at (hg : g b = some (.cells ro cs)) (h : j < cs.length) : opLoad1 g (.pointer (some ⟨b, j, none⟩)) = some (cs.getD j undf) := by
  have : (cs.drop j).take 1 = [cs.getD j undf] := by
    rw [List.drop_eq_getElem_cons h, List.take_succ_cons, List.take_zero]
    simp [List.getD, h]
  simp [opLoad1, loadV_at hg (show j + 1 ≤ cs.length by omega), this]
theorem loadN_at {m : Nat} (hg : g b = some (.cells ro cs)) (h : j + m ≤ cs.length) : opLoadN g m (.pointer (some ⟨b, j, none⟩)) = some (.agg ⟨(cs.drop j).take m⟩) := by
  simp [opLoadN, loadV_at hg h]
theorem fld_ptr (off : Nat) (a : Addr) : opFieldAddr off (.pointer (some a)) = some (.pointer (some ⟨a.block, a.off + off, none⟩)) := rfl
theorem idxA_ptr {len : Nat} {k : IntKind} {i : Int} {a : Addr} (h0 : 0 ≤ i) (h1 : i < len) : opIndexAddrA len z (.pointer (some a)) (.int k i) = some (.pointer (some ⟨a.block, a.off + i.toNat * z, none⟩)) := by
  obtain ⟨m, rfl⟩ := Int.eq_ofNat_of_zero_le h0
  have : Nat.ble (m + 1) len = true := Nat.ble_eq_true_of_le (by omega)
  simp [opIndexAddrA, this, opFieldAddr, addA]

theorem splice_one {x : Value} : ∀ {j : Nat} {cs : List Value}, j < cs.length → splice? j [x] cs = some (cs.set j x)
  | 0, c :: cs, _ => by cases cs <;> rfl
  | j + 1, c :: cs, h => by simp [splice?, splice_one (j := j) (cs := cs) (by simpa using h)]
theorem store_at {s : St} {a : Addr} {vs : List Value} (hg : s.get a.block = some (.cells false cs)) (hwm : s.wm ≤ a.block) (hs : a.spot = none) (h : a.off + vs.length ≤ cs.length) :
    s.storeN (.pointer (some a)) vs = some (s.put a.block (.cells false (cs.take a.off ++ vs ++ cs.drop (a.off + vs.length)))) := by
  obtain ⟨b, o, sp⟩ := a
  subst hs
  simp only [St.storeN, Nat.ble_eq_true_of_le hwm, cond_true, hg]
  rw [splice?_eq', if_pos h]
  rfl
theorem store1 {s : St} {x : Value} (hg : s.get b = some (.cells false cs)) (hwm : s.wm ≤ b) (h : j < cs.length) (hx : oneCell x = true) :
    opStore s 1 (.pointer (some ⟨b, j, none⟩)) x = some (undf, s.put b (.cells false (cs.set j x))) := by
  have hv := vcells_of hx
  simp only [opStore, hv, List.length_singleton, Nat.beq_refl, List.all_cons, hx, List.all_nil, Bool.and_self, cond_true]
  simp only [St.storeN, Nat.ble_eq_true_of_le hwm, cond_true, hg, splice_one h, Option.map_some]
theorem storeAgg {s : St} {xs : List Value} {m : Nat} (hg : s.get b = some (.cells false cs)) (hwm : s.wm ≤ b) (h : j + m ≤ cs.length) (hl : xs.length = m) (hx : xs.all oneCell = true) :
    opStore s m (.pointer (some ⟨b, j, none⟩)) (.agg ⟨xs⟩) = some (undf, s.put b (.cells false (cs.take j ++ xs ++ cs.drop (j + m)))) := by
  subst hl
  have h2 := store_at (a := ⟨b, j, none⟩) hg hwm rfl h
  simp only [opStore, vcells_agg, Nat.beq_refl, hx, Bool.and_self, cond_true, h2, Option.map_some]
theorem make_row {id esz bytes : Nat} {zero : List Value} {i : Int} (h0 : 0 ≤ i) (h1 : i * bytes ≤ 70368744177664) (h2 : 1 ≤ bytes) :
    opMakeSlice id esz bytes zero (.int .i64 i) (.int .i64 i) = some (.slice (some ⟨id, 0, none⟩) i.toNat esz, .cells false (reps zero i.toNat)) := by
  obtain ⟨m, rfl⟩ := Int.eq_ofNat_of_zero_le h0
  have hm : mostBytes = 70368744177664 := by decide
  have e1 : Nat.ble (m * bytes) mostBytes = true := Nat.ble_eq_true_of_le (by rw [hm]; omega)
  have e2 : Nat.ble m mostBytes = true := Nat.ble_eq_true_of_le (by
    rw [hm]
    have : m ≤ m * bytes := Nat.le_mul_of_pos_right _ (by omega)
    omega)
  simp [opMakeSlice, e1, e2]
theorem reps_one (x : Value) : ∀ n, reps [x] n = List.replicate n x
  | 0 => rfl
  | n + 1 => by simp [reps, reps_one x n, List.replicate_succ]
theorem opExtract_eq (l : List Value) (i : Nat) : opExtract (.tuple ⟨l⟩) i = l[i]? := rfl
theorem opNil_ptr (a : Addr) : opNilCheck (.pointer (some a)) = some (.pointer (some a)) := rfl
end memory
end Go.Ev

namespace Go.Ev

theorem pendOk_nil (s : St) : pendOk s [] = true := rfl
theorem passed_nil : passed [] = [] := rfl
section words
variable {a b : Nat} {k : IntKind}
theorem wrap_u {n : Nat} (h : n < 18446744073709551616) : wrapQ .u64 (n : Int) = n := by
  rw [wrap_u64]; omega
theorem n_add : opBin .add (.int .u64 (a : Int)) (.int .u64 (b : Int)) = some (.int .u64 (((a + b) % 18446744073709551616 : Nat) : Int)) := by
  rw [bin_addu]; congr 2
theorem n_mul : opBin .mul (.int .u64 (a : Int)) (.int .u64 (b : Int)) = some (.int .u64 (((a * b) % 18446744073709551616 : Nat) : Int)) := by
  rw [bin_mulu]; congr 2
theorem n_sub (hb : b < 18446744073709551616) : opBin .sub (.int .u64 (a : Int)) (.int .u64 (b : Int)) = some (.int .u64 (((a + 18446744073709551616 - b) % 18446744073709551616 : Nat) : Int)) := by
  rw [bin_subu]; congr 2; omega
theorem bv_and (a b : Nat) : (BitVec.ofInt 64 (a : Int) &&& BitVec.ofInt 64 (b : Int)).toNat = (a % 18446744073709551616) &&& (b % 18446744073709551616) := by
  rw [BitVec.toNat_and, BitVec.toNat_ofInt, BitVec.toNat_ofInt]
  have h1 : ((a : Int) % ((2 ^ 64 : Nat) : Int)).toNat = a % 18446744073709551616 := by
    have : ((2 ^ 64 : Nat) : Int) = 18446744073709551616 := by decide
    rw [this]; omega
  have h2 : ((b : Int) % ((2 ^ 64 : Nat) : Int)).toNat = b % 18446744073709551616 := by
    have : ((2 ^ 64 : Nat) : Int) = 18446744073709551616 := by decide
    rw [this]; omega
  rw [h1, h2]
theorem n_and (ha : a < 18446744073709551616) (hb : b < 18446744073709551616) : opBin .and (.int .u64 (a : Int)) (.int .u64 (b : Int)) = some (.int .u64 ((a &&& b : Nat) : Int)) := by
  have h1 : (a &&& b) ≤ a := Nat.and_le_left
  have h2 : IntKind.bits .u64 = 64 := rfl
  show (bif decide (IntKind.u64 = IntKind.u64) then bitI .and .u64 a b else none) = _
  simp only [decide_true, cond_true, bitI]
  have h3 := bv_and a b
  rw [Nat.mod_eq_of_lt ha, Nat.mod_eq_of_lt hb] at h3
  have := wrap_u (n := a &&& b) (by omega)
  rw [← h3] at this ⊢
  exact congrArg some (congrArg (Value.int .u64) this)
theorem bin_and32 (ha : a < 18446744073709551616) : opBin .and (.int .u64 (a : Int)) (.int .u64 4294967295) = some (.int .u64 ((a % 4294967296 : Nat) : Int)) := by
  have := n_and (b := 4294967295) ha (by decide)
  rw [show (4294967295 : Nat) = 2 ^ 32 - 1 from rfl, Nat.and_two_pow_sub_one_eq_mod] at this
  exact this
theorem n_shr (n : Nat) : opBin .shr (.int .u64 (a : Int)) (.int k (n : Int)) = some (.int .u64 ((a / 2 ^ (min n 64) : Nat) : Int)) := by
  show shrI .u64 a n = _
  have h1 : decide ((n : Int) < 0) = false := decide_eq_false (by omega)
  have h2 : IntKind.bits .u64 = 64 := rfl
  simp only [shrI, h1, cond_false, h2, Int.toNat_natCast]
  congr 2
  have h3 : pow2 (min n 64) = ((2 ^ (min n 64) : Nat) : Int) := by
    simp [pow2]
  rw [h3, ← Int.ofNat_fdiv]
theorem bin_shr32 : opBin .shr (.int .u64 (a : Int)) (.int k 32) = some (.int .u64 ((a / 4294967296 : Nat) : Int)) := n_shr 32
theorem bin_shr16 : opBin .shr (.int .u64 (a : Int)) (.int k 16) = some (.int .u64 ((a / 65536 : Nat) : Int)) := n_shr 16
theorem bin_shr8 : opBin .shr (.int .u64 (a : Int)) (.int k 8) = some (.int .u64 ((a / 256 : Nat) : Int)) := n_shr 8
theorem n_rem (hb : b ≠ 0) : opBin .rem (.int .u64 (a : Int)) (.int .u64 (b : Int)) = some (.int .u64 ((a % b : Nat) : Int)) := by
  show (bif decide (IntKind.u64 = IntKind.u64) then remI .u64 a b else none) = _
  have h1 : decide ((b : Int) = 0) = false := decide_eq_false (by omega)
  simp only [decide_true, cond_true, remI, h1, cond_false]
  rfl
theorem n_quo (hb : b ≠ 0) (ha : a < 18446744073709551616) : opBin .quo (.int .u64 (a : Int)) (.int .u64 (b : Int)) = some (.int .u64 ((a / b : Nat) : Int)) := by
  show (bif decide (IntKind.u64 = IntKind.u64) then quoI .u64 a b else none) = _
  have h1 : decide ((b : Int) = 0) = false := decide_eq_false (by omega)
  simp only [decide_true, cond_true, quoI, h1, cond_false]
  have : a / b ≤ a := Nat.div_le_self _ _
  exact congrArg some (congrArg (Value.int .u64) (wrap_u (n := a / b) (by omega)))
theorem conv_nat {k' : IntKind} (ha : a < 18446744073709551616) : opConv .u64 (.int k' (a : Int)) = some (.int .u64 (a : Int)) := by
  simp only [opConv]; rw [wrap_u ha]
theorem conv_u8 {k' : IntKind} {n : Nat} : opConv .u8 (.int k' (n : Int)) = some (.int .u8 ((n % 256 : Nat) : Int)) := by
  have : wrapQ .u8 (n : Int) = ((n % 256 : Nat) : Int) := by
    simp [wrapQ]
  simp [opConv, this]
end words
end Go.Ev

namespace Go.Ev

/-! ### Cells of a block -/
def cellsN (ob : Option IObj) (j m : Nat) : Option (List Value) :=
  match ob with
  | some (.cells _ c) => (drop? j c).bind (take? m)
  | _ => none
def one? : Option (List Value) → Option Value
  | some [v] => some v
  | _ => none
section
variable {g : Get} {b j m : Nat} {cs vs : List Value} {x : Value}
theorem loadV_box : loadV g (.pointer (some ⟨b, j, none⟩)) m = cellsN (g b) j m := rfl
theorem load1_box : opLoad1 g (.pointer (some ⟨b, j, none⟩)) = one? (cellsN (g b) j 1) := rfl
theorem loadN_box : opLoadN g m (.pointer (some ⟨b, j, none⟩)) = (cellsN (g b) j m).map fun vs => .agg ⟨vs⟩ := rfl
theorem cellsN_some (ro : Bool) : cellsN (some (.cells ro cs)) j m = (drop? j cs).bind (take? m) := rfl
theorem drop?_zero {α : Type} (l : List α) : drop? 0 l = some l := by cases l <;> rfl
theorem drop?_succ {α : Type} (n : Nat) (x : α) (l : List α) : drop? (n + 1) (x :: l) = drop? n l := rfl
theorem take?_zero {α : Type} (l : List α) : take? 0 l = some [] := by cases l <;> rfl
theorem take?_succ {α : Type} (n : Nat) (x : α) (l : List α) : take? (n + 1) (x :: l) = (take? n l).map (x :: ·) := rfl
theorem one?_some (v : Value) : one? (some [v]) = some v := rfl
/-- What a store makes of a block. -/
def storeC (s : St) (b j : Nat) (vs : List Value) (ob : Option IObj) : Option (Value × St) :=
  match ob with
  | some (.cells false c) => (splice? j vs c).map fun c' => (undf, s.put b (.cells false c'))
  | _ => none
theorem store_box {s : St} : opStore s m (.pointer (some ⟨b, j, none⟩)) x = if (vcells x).length = m ∧ (vcells x).all oneCell = true ∧ s.wm ≤ b then storeC s b j (vcells x) (s.get b) else none := by
  simp only [opStore, St.storeN, natbeq, natble]
  by_cases h1 : (vcells x).length = m <;> by_cases h2 : (vcells x).all oneCell = true <;> by_cases h3 : s.wm ≤ b <;> simp [h1, h2, h3, storeC]
  · cases s.get b with
    | none => rfl
    | some o => cases o with
      | cells ro c => cases ro <;> simp <;> rfl
      | _ => rfl
theorem storeC_some {s : St} : storeC s b j vs (some (.cells false cs)) = (splice? j vs cs).map fun c' => (undf, s.put b (.cells false c')) := rfl
theorem get_eq (s : St) (b : Nat) (o : IObj) : (s.put b o).get b = some o := by rw [St.get_put, if_pos rfl]
theorem get_ne {s : St} {b i : Nat} {o : IObj} (h : i ≠ b) : (s.put b o).get i = s.get i := by rw [St.get_put, if_neg h]
theorem bump_getF (s : St) (n : Nat) : (s.bump n).get = s.get := rfl
theorem lenN_agg (l : List Value) : vcells (.agg ⟨l⟩) = l := rfl
end

/-! ### Checked loads -/
section
variable {prog : Nat → Option CDecl} {base : Nat} {os : List CO} {F : Fr} {s : St} {prev : List St} {pend : Pend} {L : List Nat} {k : List KItem} {Q : Ex → Fr → St → Prop} {d : Option Nat}
def loadK (prog : Nat → Option CDecl) (base : Nat) (d : Option Nat) (os : List CO) (F : Fr) (s : St) (prev : List St) (pend : Pend) (L : List Nat) (k : List KItem) (Q : Ex → Fr → St → Prop) (m n : Nat) (v p : Value) (c : Nat) (r : Option (List Value)) : Prop :=
  ∃ vs, r = some vs ∧ prevOk m prev ⟨p, c, vs⟩ = true ∧ opsK prog base os (putO F d v) s prev (bif Nat.beq n 0 then pend else (n, some ⟨p, c, vs⟩) :: pend) L k Q
theorem stepL_some (m n : Nat) (v p : Value) (c : Nat) : stepL prog base d os F s prev pend L k Q m n (some v) (some (p, c)) = loadK prog base d os F s prev pend L k Q m n v p c (loadV s.get p c) := by
  simp only [stepL, loadK, eq_iff_iff]
  constructor
  · rintro ⟨v', p', c', vs, h1, h2, h3, h4, h5⟩
    cases h1; cases h2
    exact ⟨vs, h3, h4, h5⟩
  · rintro ⟨vs, h3, h4, h5⟩
    exact ⟨v, p, c, vs, rfl, rfl, h3, h4, h5⟩
theorem loadK_some (m n : Nat) (v p : Value) (c : Nat) (vs : List Value) : loadK prog base d os F s prev pend L k Q m n v p c (some vs) =
    (prevOk m prev ⟨p, c, vs⟩ = true ∧ opsK prog base os (putO F d v) s prev (bif Nat.beq n 0 then pend else (n, some ⟨p, c, vs⟩) :: pend) L k Q) := by
  simp only [loadK, Option.some.injEq, eq_iff_iff]
  exact ⟨fun ⟨_, h, h1⟩ => by subst h; exact h1, fun h => ⟨_, rfl, h⟩⟩
theorem loadOf_1 (F : Fr) (x : COpd) : loadOf F (.load1 x) = some (x.ev F, 1) := rfl
theorem loadOf_n (F : Fr) (n : Nat) (x : COpd) : loadOf F (.loadN n x) = some (x.ev F, n) := rfl
theorem pend_zero (p : Pend) (x : Nat × Option Ld) : (bif Nat.beq 0 0 then p else x :: p) = p := rfl
theorem pend_succ (n : Nat) (p : Pend) (x : Nat × Option Ld) : (bif Nat.beq (n + 1) 0 then p else x :: p) = x :: p := rfl
theorem passed_one (x : Option Ld) (r : Pend) : passed ((1, x) :: r) = passed r := rfl
theorem passed_more (n : Nat) (x : Option Ld) (r : Pend) : passed ((n + 2, x) :: r) = (n + 1, x) :: passed r := rfl
theorem prevOk_zero (l : List St) (x : Ld) : prevOk 0 l x = true := by cases l <;> rfl
theorem prevOk_nil (n : Nat) (x : Ld) : prevOk n [] x = true := by cases n <;> rfl
theorem prevOk_cons (n : Nat) (s : St) (r : List St) (x : Ld) : prevOk (n + 1) (s :: r) x = (sameLoad s x && prevOk n r x) := rfl
theorem pendOk_cons (s : St) (n : Nat) (x : Ld) (r : Pend) : pendOk s ((n, some x) :: r) = (sameLoad s x && pendOk s r) := rfl
def sameK (r : Option (List Value)) (vs : List Value) : Bool :=
  match r with
  | some us => vsames1 us vs
  | none => false
theorem sameLoadK_eq (s : St) (p : Value) (n : Nat) (vs : List Value) : sameLoad s ⟨p, n, vs⟩ = sameK (loadV s.get p n) vs := by
  unfold sameLoad sameK
  cases loadV s.get p n <;> rfl
end

/-! ### Values that are the same as themselves -/
def Sm (d : Nat) (v : Value) : Prop := ∀ f, d ≤ f → vsameF f v v = true
theorem Sm.up {d d' : Nat} {v : Value} (h : Sm d v) (hd : d ≤ d') : Sm d' v := fun f hf => h f (Nat.le_trans hd hf)
theorem sm_a {v : Value} (h : vsameA v v = true) (h1 : ∀ z l, v ≠ .iface z (.agg ⟨l⟩)) (h2 : ∀ z l, v ≠ .iface z (.tuple ⟨l⟩)) (h3 : ∀ l, v ≠ .agg ⟨l⟩) : Sm 0 v := fun f _ => by
  cases f with
  | zero => exact h
  | succ f =>
    unfold vsameF
    split
    · exact absurd rfl (h1 _ _)
    · exact absurd rfl (h2 _ _)
    · exact absurd rfl (h3 _)
    · exact h
theorem sm_int (k : IntKind) (n : Int) : Sm 0 (.int k n) := sm_a (by simp [vsameA]) (fun _ _ h => by cases h) (fun _ _ h => by cases h) (fun _ h => by cases h)
theorem sm_bool (b : Bool) : Sm 0 (.bool b) := sm_a (by simp [vsameA]) (fun _ _ h => by cases h) (fun _ _ h => by cases h) (fun _ h => by cases h)
theorem sm_ptr (a : Option Addr) : Sm 0 (.pointer a) := sm_a (by simp [vsameA]) (fun _ _ h => by cases h) (fun _ _ h => by cases h) (fun _ h => by cases h)
theorem sm_slice (a : Option Addr) (n z : Nat) : Sm 0 (.slice a n z) := sm_a (by simp [vsameA]) (fun _ _ h => by cases h) (fun _ _ h => by cases h) (fun _ h => by cases h)
theorem sm_map (a : Option Nat) : Sm 0 (.map a) := sm_a (by simp [vsameA]) (fun _ _ h => by cases h) (fun _ _ h => by cases h) (fun _ h => by cases h)
theorem sm_list {d f : Nat} (hf : d ≤ f) : ∀ {l : List Value}, (∀ v ∈ l, Sm d v) → vsamesF (vsameF f) l l = true
  | [], _ => rfl
  | v :: l, h => by
    simp only [vsamesF]
    rw [h v List.mem_cons_self f hf, sm_list hf (fun v hv => h v (List.mem_cons_of_mem _ hv))]
    rfl
theorem sm_agg {d : Nat} {l : List Value} (h : ∀ v ∈ l, Sm d v) : Sm (d + 1) (.agg ⟨l⟩) := fun f hf => by
  obtain ⟨f, rfl⟩ : ∃ m, f = m + 1 := ⟨f - 1, by omega⟩
  exact sm_list (by omega) h
theorem sm_im {d z : Nat} {l : List Value} (h : ∀ v ∈ l, Sm d v) : Sm (d + 1) (.iface z (.agg ⟨l⟩)) := fun f hf => by
  obtain ⟨f, rfl⟩ : ∃ m, f = m + 1 := ⟨f - 1, by omega⟩
  simp only [vsameF, Nat.beq_refl, Bool.true_and]
  exact sm_list (by omega) h
theorem vcells_is (v : Value) : (∃ l, v = .agg ⟨l⟩ ∧ vcells v = l) ∨ vcells v = [v] := by
  cases v with
  | agg l => exact .inl ⟨l.toList, rfl, rfl⟩
  | _ => exact .inr rfl
theorem sm_cells {d : Nat} {v : Value} (h : ∀ c ∈ vcells v, Sm d c) : Sm (d + 1) v := by
  rcases vcells_is v with ⟨l, rfl, hl⟩ | h1
  · rw [hl] at h
    exact sm_agg h
  · exact (h v (by rw [h1]; simp)).up (by omega)
theorem Row.sm {g : Get} {d z : Nat} {v : Value} {es : List (List Value)} (h : Row g z v es) (hc : ∀ e ∈ es, ∀ c ∈ e, Sm d c) : Sm (d + 2) v := by
  rcases h.is with ⟨rfl, _⟩ | ⟨b, o, ro, cc, rfl, _⟩ | ⟨vs, rfl, h2⟩
  · exact (sm_slice _ _ _).up (by omega)
  · exact (sm_slice _ _ _).up (by omega)
  · refine sm_im fun u hu => sm_cells fun c hcu => hc (vcells u) ?_ c hcu
    rw [← h2]
    exact List.mem_map.2 ⟨u, hu, rfl⟩
theorem sameK_some {us : List Value} (h : ∀ v ∈ us, Sm 6 v) : sameK (some us) us = true := sm_list (Nat.le_refl 6) h
theorem sameK_eq (us vs : List Value) : sameK (some us) vs = vsamesF (vsameF 6) us vs := rfl
theorem vsamesF_nil (p : Value → Value → Bool) : vsamesF p [] [] = true := rfl
theorem vsamesF_cons (p : Value → Value → Bool) (x y : Value) (xs ys : List Value) : vsamesF p (x :: xs) (y :: ys) = (p x y && vsamesF p xs ys) := rfl
theorem same_bool (b : Bool) : vsameF 6 (.bool b) (.bool b) = true := sm_bool b 6 (by omega)
theorem same_int (k : IntKind) (n : Int) : vsameF 6 (.int k n) (.int k n) = true := sm_int k n 6 (by omega)
theorem same_ptr (a : Option Addr) : vsameF 6 (.pointer a) (.pointer a) = true := sm_ptr a 6 (by omega)
theorem same_slice (a : Option Addr) (n z : Nat) : vsameF 6 (.slice a n z) (.slice a n z) = true := sm_slice a n z 6 (by omega)
theorem same_map (a : Option Nat) : vsameF 6 (.map a) (.map a) = true := sm_map a 6 (by omega)
theorem eq_bool (a b : Bool) : opEq false .bool (.bool a) (.bool b) = some (.bool (a == b)) := rfl
theorem neq_bool (a b : Bool) : opEq true .bool (.bool a) (.bool b) = some (.bool (!(a == b))) := rfl
/-- A call, whatever loads wait. -/
theorem callK.ofS {prog : Nat → Option CDecl} {base : Nat} {os : List CO} {F : Fr} {s : St} {prev : List St} {pend : Pend} {L : List Nat} {k : List KItem} {Q : Ex → Fr → St → Prop} {d : Option Nat}
    {f : Value} {args : List Value} {v : Value} {s' : St} (h : Ret prog f args s v s') (h2 : pendOk s' pend = true ∧ opsK prog base os (putO F d v) s' (s :: prev) (passed pend) L k Q) :
    callK prog f args base d os F s prev pend L k Q := callK.of h h2.1 h2.2
end Go.Ev

