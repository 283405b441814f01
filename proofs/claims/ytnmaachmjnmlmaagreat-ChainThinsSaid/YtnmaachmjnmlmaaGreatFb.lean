/-
  What only computes, or reads: the model's operation does what the evaluator's does.

  The operations that only compute, or read, one by one.

  The operations that only compute, or read, one by one: slices, parts, keys.

  The operations that only compute, or read, one by one: indices, fields, lengths, literals.
-/
import Derived.Test.YtnmaachmjnmlmaaGreatFa
import Derived.Laws.Entries
import Derived.Laws.Sem
set_option linter.unusedVariables false
set_option linter.unusedSimpArgs false
set_option linter.unusedSectionVars false
namespace Go.Ev

theorem drop?_eq {α : Type} : ∀ (n : Nat) (l : List α), drop? n l = if n ≤ l.length then some (l.drop n) else none
  | 0, l => by simp [drop?]
  | n + 1, [] => by simp [drop?]
  | n + 1, _ :: l => by simp [drop?, drop?_eq n l]
theorem take?_eq {α : Type} : ∀ (n : Nat) (l : List α), take? n l = if n ≤ l.length then some (l.take n) else none
  | 0, l => by simp [take?]
  | n + 1, [] => by simp [take?]
  | n + 1, x :: l => by
    simp only [take?, take?_eq n l]
    by_cases h : n ≤ l.length <;> simp [h]

/-- The cells of a list from 'o' on, n of them. -/
theorem cut_some {α : Type} {o n : Nat} {c vs : List α} (h : (drop? o c).bind (take? n) = some vs) : vs = (c.drop o).take n ∧ o + n ≤ c.length := by
  rw [drop?_eq] at h
  by_cases ho : o ≤ c.length
  · simp only [ho, if_true, Option.bind_some, take?_eq, List.length_drop] at h
    by_cases hn : n ≤ c.length - o
    · simp only [hn, if_true, Option.some.injEq] at h
      exact ⟨h.symm, by omega⟩
    · simp [hn] at h
  · simp [ho] at h

theorem VL.cut {φ : Emb} {c : List Value} {cc : Array Value} {δ o n : Nat} (hs : o + n ≤ c.length) (hc : δ + c.length ≤ cc.size)
    (h : ∀ j, j < c.length → V φ (c.getD j undf) (cc.getD (δ + j) undf)) :
    VL φ ((c.drop o).take n) ((List.range n).map fun j => cc.getD (δ + o + j) undf) := by
  refine ⟨by simp; omega, fun i hi => ?_⟩
  have hi' : i < n := by simp at hi; omega
  have := h (o + i) (by omega)
  have e1 : ((c.drop o).take n).getD i undf = c.getD (o + i) undf := by
    simp [List.getD, List.getElem?_take, hi']
  have e2 : (((List.range n).map fun j => cc.getD (δ + o + j) undf)).getD i undf = cc.getD (δ + (o + i)) undf := by
    simp [List.getD, hi', Nat.add_assoc]
  rw [e1, e2]
  exact this

section
variable {P : Program} {φ : Emb} {H : Get} {w : World} {B0 : Nat}

theorem cell_of {b o : Nat} {cc : Array Value} {el : TypeId} {fz : Nat × Nat} (h : w.heap[b]? = some (.cells cc el fz)) (ho : o < cc.size) :
    w.cell? ⟨b, o, none⟩ = some (cc.getD o undf) := by
  simp [World.cell?, h, Array.getD_eq_getD_getElem?, ho]

theorem addr_add (b o n : Nat) : (Addr.add ⟨b, o, none⟩ n) = ⟨b, o + n, none⟩ := by
  unfold Addr.add
  split
  · rename_i h; subst h; rfl
  · rfl

theorem run_load {a : Addr} {v : Value} (h : w.cell? a = some v) : (load a).run P w = .ok v w := by
  simp [load, Sem.run, h]

theorem run_loadCellsFrom {b o : Nat} {cc : Array Value} {el : TypeId} {fz : Nat × Nat} (h : w.heap[b]? = some (.cells cc el fz)) :
    ∀ (n i : Nat) (acc : Array Value), o + i + n ≤ cc.size →
      (loadCellsFrom ⟨b, o, none⟩ i n acc).run P w = .ok (acc ++ ((List.range n).map fun j => cc.getD (o + i + j) undf).toArray) w
  | 0, i, acc, _ => by simp [loadCellsFrom]
  | n + 1, i, acc, hs => by
    have hc := cell_of (w := w) h (show o + i < cc.size by omega)
    simp only [loadCellsFrom, Sem.run_bind, addr_add, run_load hc, Result.andThen_ok]
    rw [run_loadCellsFrom h n (i + 1) _ (by omega)]
    congr 1
    rw [← Array.toList_inj, List.range_succ_eq_map]
    simp [Nat.add_assoc, Nat.add_comm 1, Function.comp_def]

theorem run_loadCells {b o n : Nat} {cc : Array Value} {el : TypeId} {fz : Nat × Nat} (h : w.heap[b]? = some (.cells cc el fz)) (hs : o + n ≤ cc.size) :
    (loadCells ⟨b, o, none⟩ n).run P w = .ok ⟨(List.range n).map fun j => cc.getD (o + j) undf⟩ w := by
  unfold loadCells
  rw [run_loadCellsFrom h n 0 #[] (by omega)]
  simp

/-- What a load finds. -/
theorem loadV_some {p q : Value} {n : Nat} {vs : List Value} (r : Rel P B0 φ H w) (h : loadV H p n = some vs) (v : V φ p q) :
    ∃ b o cc el fz, q = .pointer (some ⟨b, o, none⟩) ∧ w.heap[b]? = some (.cells cc el fz) ∧ o + n ≤ cc.size ∧
      VL φ vs ((List.range n).map fun j => cc.getD (o + j) undf) := by
  unfold loadV at h
  split at h
  · rename_i i o
    split at h
    · rename_i ro c hc
      obtain ⟨rfl, hs⟩ := cut_some h
      cases v with
      | ptr e =>
        rename_i b δ sz
        have ho := r.obj _ _ _ _ e
        rw [hc] at ho
        obtain ⟨cc, el, fz, a1, a2, a3, a4, _⟩ := ho
        exact ⟨b, δ + o, cc, el, fz, rfl, a1, by omega, VL.cut hs (by omega) a4⟩
    · cases h
  · rename_i o c
    obtain ⟨rfl, hs⟩ := cut_some h
    cases v with
    | imptr e a f =>
      rename_i b o' cc
      obtain ⟨el, fz, h1⟩ := r.imo _ _ e
      refine ⟨b, o' + o, cc, el, fz, rfl, h1, by omega, VL.cut hs a f⟩
  · cases h

theorem run_isAgg {t : TypeId} {b : Bool} (h : aggIs P t b = true) : (isAgg t).run P w = .ok b w := by
  unfold aggIs at h
  cases hd : P.underlying t with
  | none => rw [hd] at h; cases h
  | some d =>
    rw [hd] at h
    unfold isAgg
    simp only [Sem.run_bind, run_underlying hd, Result.andThen_ok]
    cases d <;> simp_all
theorem run_sizeOf {t : TypeId} {n : Nat} (h : sizeIs P t n = true) : (sizeOf t).run P w = .ok n w := by
  unfold sizeIs at h
  cases hi : P.info? t with
  | none => rw [hi] at h; cases h
  | some i =>
    rw [hi] at h
    have := Nat.eq_of_beq_eq_true h
    simp [sizeOf, typeInfo, program, Sem.run, hi, this]

theorem atomC_V {x y : Value} (h : atomC x y = true) : V φ y x := by
  unfold atomC at h
  split at h
  · obtain rfl := eq_of_beq h; exact .bool _
  · simp only [Bool.and_eq_true, decide_eq_true_eq] at h
    obtain ⟨rfl, rfl⟩ := h; exact .int _ _
  · rename_i s s'
    have e : s.data.toList = s'.data.toList := eq_of_beq h
    have : s = s' := by
      obtain ⟨⟨a⟩⟩ := s
      obtain ⟨⟨b⟩⟩ := s'
      simp at e
      rw [e]
    subst this; exact .str _
  · exact .nptr
  · exact .nfn
  · exact .nif
  · exact .nmap
  · exact .nsl
  · cases h

theorem atomsC_VL : ∀ {xs ys : List Value}, atomsC xs ys = true → VL φ ys xs
  | [], [], _ => .nil φ
  | [], _ :: _, h => by cases h
  | _ :: _, [], h => by cases h
  | x :: xs, y :: ys, h => by
    simp only [atomsC, Bool.and_eq_true] at h
    exact .cons (atomC_V h.1) (atomsC_VL h.2)

theorem constC_V {x y : Value} (h : constC x y = true) : V φ y x := by
  unfold constC at h
  split at h
  · exact .agg' (atomsC_VL h)
  · exact .tuple' (.nil φ)
  · exact atomC_V h

/-- The operands' values. -/
def EvR (φ : Emb) (F : Fr) (ρ : Operand → Value) (xs : List Operand) : Prop := ∀ x ∈ xs, ∀ y, opdC x y = true → V φ (y.ev F) (ρ x)

theorem evArgs_VL {F : Fr} {ρ : Operand → Value} : ∀ {xs : List Operand} {ys : List COpd}, EvR φ F ρ xs → opdsC xs ys = true → VL φ (evArgs F ys) (xs.map ρ)
  | [], [], _, _ => .nil φ
  | [], _ :: _, _, h => by cases h
  | _ :: _, [], _, h => by cases h
  | x :: xs, y :: ys, e, h => by
    simp only [opdsC, Bool.and_eq_true] at h
    exact .cons (e x (by simp) y h.1) (evArgs_VL (fun z hz => e z (by simp [hz])) h.2)

end
end Go.Ev

namespace Go.Ev

section
variable {P : Program} {φ : Emb} {H : Get} {w : World} {B0 : Nat} {F : Fr} {ρ : Operand → Value}

theorem V.inv_bool {b : Bool} {y : Value} (h : V φ (.bool b) y) : y = .bool b := by cases h; rfl
theorem V.inv_int {k : IntKind} {n : Int} {y : Value} (h : V φ (.int k n) y) : y = .int k n := by cases h; rfl
theorem V.inv_str {s : ByteArray} {y : Value} (h : V φ (.string s) y) : y = .string s := by cases h; rfl
theorem V.inv_agg {xs : List Value} {y : Value} (h : V φ (.agg ⟨xs⟩) y) : ∃ ys, y = .agg ⟨ys⟩ ∧ VL φ xs ys := by
  cases h with
  | agg e f => exact ⟨_, rfl, e, f⟩
theorem V.inv_tuple {xs : List Value} {y : Value} (h : V φ (.tuple ⟨xs⟩) y) : ∃ ys, y = .tuple ⟨ys⟩ ∧ VL φ xs ys := by
  cases h with
  | tuple e f => exact ⟨_, rfl, e, f⟩
theorem V.inv_ptr {a : Addr} {y : Value} (h : V φ (.pointer (some a)) y) :
    ∃ i o b δ sz, a = ⟨i, o, none⟩ ∧ φ.blk i = some (b, δ, sz) ∧ y = .pointer (some ⟨b, δ + o, none⟩) := by
  cases h with
  | ptr e => exact ⟨_, _, _, _, _, rfl, e, rfl⟩
theorem V.inv_nptr {y : Value} (h : V φ (.pointer none) y) : y = .pointer none := by cases h; rfl
theorem V.inv_sl {a : Addr} {n z : Nat} {y : Value} (h : V φ (.slice (some a) n z) y) :
    ∃ i o b δ sz cap o', a = ⟨i, o, none⟩ ∧ φ.blk i = some (b, δ, sz) ∧ n ≤ cap ∧ o' + cap * z ≤ sz ∧ 0 < z ∧ (o' = δ + o ∨ n = 0 ∧ cap = 0) ∧
      y = .slice (some ⟨b, o', none⟩) n cap := by
  cases h with
  | sl e a b c d => exact ⟨_, _, _, _, _, _, _, rfl, e, a, b, c, d, rfl⟩
theorem V.inv_imsl {z : Nat} {es : List Value} {y : Value} (h : V φ (.iface z (.agg ⟨es⟩)) y) :
    (es = [] ∧ 0 < z ∧ ∃ a cap, y = .slice (some a) 0 cap) ∨ ∃ b o cap cc, y = .slice (some ⟨b, o, none⟩) es.length cap ∧ φ.im b = some cc ∧ 0 < z ∧ es.length ≤ cap ∧ o + es.length * z ≤ cc.size ∧
      (∀ e ∈ es, (vcells e).length = z) ∧ (∀ j, j < es.length * z → V φ ((es.flatMap vcells).getD j undf) (cc.getD (o + j) undf)) := by
  cases h with
  | iesl a b => exact .inl ⟨rfl, b, _, _, rfl⟩
  | imsl e a b c d f g => subst b; exact .inr ⟨_, _, _, _, rfl, e, a, c, d, f, g⟩
theorem V.inv_nsl {n z : Nat} {y : Value} (h : V φ (.slice none n z) y) : n = 0 ∧ z = 0 ∧ y = .slice none 0 0 := by
  cases h; exact ⟨rfl, rfl, rfl⟩

theorem run_binII {op : BinOp} {t : TypeId} {k k' : IntKind} {a b : Int} {v : Value} (h : binII op k k' a b = some v) :
    (binOp op t (.int k a) (.int k' b)).run P w = .ok v w := by
  have hp : ∀ n : Nat, pow2 n = (2 : Int) ^ n := fun n => by simp [pow2]
  by_cases hk : k = k'
  · subst hk
    cases op <;> simp [binII, binI, quoI, remI, shlI, shrI, bitI, decI, wrapQ_eq, hp] at h <;>
      simp [binOp, Op.intArith, Op.intDiv, Op.intBits, Op.intCmp, Op.shift, h]
    case quo => by_cases hb : b = 0 <;> simp [hb] at h; subst h; simp [hb]
    case rem => by_cases hb : b = 0 <;> simp [hb] at h; subst h; simp [hb]
    case shl => by_cases hb : b < 0 <;> simp [hb] at h; subst h; simp [hb]
    case shr => by_cases hb : b < 0 <;> simp [hb] at h; subst h; simp [hb]
    all_goals (first | done | (subst h; first | rfl | (congr 2; first | rfl | (apply Bool.eq_iff_iff.2; simp))))
  · cases op <;> simp [binII, binI, quoI, remI, shlI, shrI, bitI, decI, wrapQ_eq, hp, hk] at h
    case shl => by_cases hb : b < 0 <;> simp [hb] at h; subst h; simp [binOp, Op.shift, hb]
    case shr => by_cases hb : b < 0 <;> simp [hb] at h; subst h; simp [binOp, Op.shift, hb]

theorem eqGuard_atoms {op : BinOp} {t : TypeId} {x y : Operand} {a b : Value} (ha : ∀ c, a ≠ .agg c) (hn : a ≠ .nilIface) : (eqGuard op t x y a b).run P w = .ok () w := by
  cases a <;> first
    | exact absurd rfl hn
    | exact absurd rfl (ha _)
    | (cases op <;> rfl)

theorem sim_bin {op : BinOp} {t : TypeId} {x y : Operand} {u v z a b : Value} (h : opBin op u v = some z) (h1 : V φ u a) (h2 : V φ v b) :
    (do eqGuard op t x y a b; binOp op t a b).run P w = .ok z w ∧ V φ z z := by
  unfold opBin at h
  split at h
  · rename_i k n
    split at h
    · rename_i k' m
      rw [h1.inv_int, h2.inv_int]
      refine ⟨by rw [Sem.run_bind, eqGuard_atoms (by simp) (by simp)]; exact run_binII h, ?_⟩
      unfold binII at h
      split at h
      · unfold shlI at h; by_cases hb : m < 0 <;> simp [hb] at h; subst h; exact .int _ _
      · unfold shrI at h; by_cases hb : m < 0 <;> simp [hb] at h; subst h; exact .int _ _
      · by_cases hk : k = k'
        · simp only [hk, decide_true, cond_true] at h
          unfold binI at h
          split at h <;> (try simp only [quoI, remI, bitI, decI, Option.some.injEq] at h) <;> first
            | (cases h; done)
            | (subst h; first | exact .int _ _ | exact .bool _)
            | (by_cases hb : m = 0 <;> simp [hb] at h; subst h; exact .int _ _)
        · simp [hk] at h
    · cases h
  · rename_i s
    split at h
    · rename_i s'
      rw [h1.inv_str, h2.inv_str]
      have hz : Op.stringOp op s s' = .pure z := by
        cases hs : Op.stringOp op s s' <;> rw [hs] at h <;> simp [purev] at h
        rw [h]
      refine ⟨?_, ?_⟩
      · rw [Sem.run_bind, eqGuard_atoms (by simp) (by simp)]
        have : binOp op t (.string s) (.string s') = Op.stringOp op s s' := by cases op <;> rfl
        simp only [Result.andThen_ok, this, hz, Sem.run_pure']
      · unfold Op.stringOp at hz
        dsimp only at hz
        split at hz
        · split at hz
          · cases hz
          · injection hz with hz; rw [← hz]; exact .str _
        all_goals first | (injection hz with hz; rw [← hz]; exact .bool _) | cases hz
    · cases h
  · cases h

theorem sim_un {op : UnOp} {u z a : Value} (h : opUn op u = some z) (h1 : V φ u a) : (Op.unary op a).run P w = .ok z w ∧ V φ z z := by
  unfold opUn at h
  split at h
  · rename_i k n
    rw [h1.inv_int]
    split at h
    · simp only [wrapQ_eq, Option.some.injEq] at h
      subst h
      exact ⟨by simp [Op.unary, Op.intArith], .int _ _⟩
    · simp only [bitI, wrapQ_eq, Option.some.injEq] at h
      subst h
      refine ⟨?_, .int _ _⟩
      cases hk : k.signed <;> simp [Op.unary, Op.intBits, hk]
    · cases h
  · rename_i b
    rw [h1.inv_bool]
    split at h
    · simp only [Option.some.injEq] at h
      subst h
      exact ⟨by simp [Op.unary], .bool _⟩
    · cases h
  · cases h

theorem sim_nilCheck {u z a : Value} (h : opNilCheck u = some z) (h1 : V φ u a) :
    V φ z a ∧ ((∃ p, a = .pointer (some p)) ∨ (∃ f x y, a = .func (.func f) x y) ∨ (∃ f x y, a = .func (.yield f) x y)) := by
  unfold opNilCheck at h
  split at h
  · simp only [Option.some.injEq] at h; subst h
    obtain ⟨i, o, b, δ, sz, rfl, e, rfl⟩ := h1.inv_ptr
    exact ⟨h1, .inl ⟨_, rfl⟩⟩
  · simp only [Option.some.injEq] at h; subst h
    cases h1 with
    | imptr e a f => exact ⟨.imptr e a f, .inl ⟨_, rfl⟩⟩
  · simp only [Option.some.injEq] at h; subst h
    cases h1 with
    | fn e f => exact ⟨.fn e f, .inr (.inl ⟨_, _, _, rfl⟩)⟩
  · simp only [Option.some.injEq] at h; subst h
    cases h1 with
    | yield e => exact ⟨.yield e, .inr (.inr ⟨_, _, _, rfl⟩)⟩
  · cases h

theorem sim_fieldAddr {off : Nat} {u z a : Value} (h : opFieldAddr off u = some z) (h1 : V φ u a) :
    ∃ b o, a = .pointer (some ⟨b, o, none⟩) ∧ V φ z (.pointer (some ⟨b, o + off, none⟩)) := by
  unfold opFieldAddr at h
  split at h
  · obtain ⟨i, o, b, δ, sz, rfl, e, rfl⟩ := h1.inv_ptr
    simp only [Option.some.injEq] at h; subst h
    refine ⟨_, _, rfl, ?_⟩
    have := V.ptr (φ := φ) (o := o + off) e
    rwa [← Nat.add_assoc] at this
  · rename_i o1 c1
    simp only [Option.some.injEq] at h; subst h
    cases h1 with
    | imptr e a f =>
      refine ⟨_, _, rfl, ?_⟩
      have := @V.imptr φ (o1 + off) _ _ _ _ e a f
      rwa [← Nat.add_assoc] at this
  · cases h

end
end Go.Ev

namespace Go.Ev

section
variable {P : Program} {φ : Emb} {H : Get} {w : World} {B0 : Nat} {F : Fr} {ρ : Operand → Value}

theorem bound_some {x : Value} {m n : Nat} (h : bound x m = some n) : (∃ k, x = .int k (n : Int)) ∧ n ≤ m := by
  unfold bound at h
  split at h
  · rename_i k i
    cases hb : Nat.ble i m <;> rw [hb] at h <;> simp at h
    subst h
    exact ⟨⟨k, rfl⟩, Nat.le_of_ble_eq_true hb⟩
  · cases h

theorem run_sliceBound {k : IntKind} {n m c : Nat} {code : BoundsCode} (h : n ≤ m) (hm : m ≤ c) : (Instr.sliceBound (.int k (n : Int)) c code).run P w = .ok n w := by
  have : (0 : Int) ≤ n ∧ (n : Int) ≤ (c : Int) := by omega
  simp [Instr.sliceBound, asIntOf, this]

/-- The bounds of a slice expression, as the model reckons them. -/
theorem run_sliceBounds {b : Bool} {len cap l h : Nat} {lo hi lo' hi' : Option Value} (hc : len ≤ cap) (e1 : boundO hi len len = some h) (e2 : boundO lo 0 h = some l)
    (v1 : ∀ x, hi = some x → ∃ y, hi' = some y ∧ V φ x y) (n1 : hi = none → hi' = none) (v2 : ∀ x, lo = some x → ∃ y, lo' = some y ∧ V φ x y) (n2 : lo = none → lo' = none) :
    (Instr.sliceBounds b len cap lo' hi' none).run P w = .ok (l, h, cap) w ∧ l ≤ h ∧ h ≤ len := by
  have hh : h ≤ len := by
    cases hi with
    | none => simp [boundO] at e1; omega
    | some x => exact (bound_some e1).2
  have hl : l ≤ h := by
    cases lo with
    | none => simp [boundO] at e2; omega
    | some x => exact (bound_some e2).2
  refine ⟨?_, hl, hh⟩
  cases hi with
  | none =>
    rw [n1 rfl]
    simp only [boundO, Option.some.injEq] at e1
    subst e1
    cases lo with
    | none =>
      rw [n2 rfl]
      simp only [boundO, Option.some.injEq] at e2
      subst e2
      simp [Instr.sliceBounds]
    | some x =>
      obtain ⟨y, e, vy⟩ := v2 x rfl
      rw [e]
      obtain ⟨⟨k, rfl⟩, hb⟩ := bound_some e2
      rw [vy.inv_int]
      simp [Instr.sliceBounds, run_sliceBound (P := P) (w := w) (k := k) (code := .sliceB) hb (Nat.le_refl _)]
  | some u =>
    obtain ⟨z, ez, vz⟩ := v1 u rfl
    rw [ez]
    obtain ⟨⟨ku, rfl⟩, hbu⟩ := bound_some e1
    rw [vz.inv_int]
    have r1 := fun code => run_sliceBound (P := P) (w := w) (k := ku) (code := code) hbu hc
    cases lo with
    | none =>
      rw [n2 rfl]
      simp only [boundO, Option.some.injEq] at e2
      subst e2
      simp [Instr.sliceBounds, r1]
    | some x =>
      obtain ⟨y, e, vy⟩ := v2 x rfl
      rw [e]
      obtain ⟨⟨k, rfl⟩, hb⟩ := bound_some e2
      rw [vy.inv_int]
      simp [Instr.sliceBounds, r1, run_sliceBound (P := P) (w := w) (k := k) (code := .sliceB) hb (Nat.le_refl _)]

theorem slice_V {i o b δ sz n z cap o' l h : Nat} (e : φ.blk i = some (b, δ, sz)) (h1 : n ≤ cap) (h2 : o' + cap * z ≤ sz) (h3 : 0 < z)
    (h4 : o' = δ + o ∨ n = 0 ∧ cap = 0) (hl : l ≤ h) (hh : h ≤ n) :
    V φ (.slice (some ⟨i, o + l * z, none⟩) (h - l) z) (.slice (if cap = l then some ⟨b, o', none⟩ else some ⟨b, o' + l * z, none⟩) (h - l) (cap - l)) := by
  have hm : (cap - l) * z + l * z = cap * z := by rw [← Nat.add_mul, Nat.sub_add_cancel (by omega)]
  by_cases hc : cap = l
  · rw [if_pos hc]
    refine .sl e (by omega) (by omega) h3 (.inr (by omega))
  · rw [if_neg hc]
    refine .sl e (by omega) (by omega) h3 ?_
    rcases h4 with h4 | h4
    · exact .inl (by omega)
    · omega

theorem flatMap_len {z : Nat} : ∀ {es : List Value}, (∀ e ∈ es, (vcells e).length = z) → (es.flatMap vcells).length = es.length * z
  | [], _ => by simp
  | e :: es, h => by
    have h1 := h e (by simp)
    have h2 := flatMap_len (es := es) (fun x hx => h x (by simp [hx]))
    rw [List.flatMap_cons, List.length_append, List.length_cons, h1, h2, Nat.succ_mul]
    omega

theorem flatMap_drop {z : Nat} : ∀ (l : Nat) {es : List Value}, (∀ e ∈ es, (vcells e).length = z) → l ≤ es.length → (es.drop l).flatMap vcells = (es.flatMap vcells).drop (l * z)
  | 0, es, _, _ => by simp
  | l + 1, [], _, h => by simp at h
  | l + 1, e :: es, h, hl => by
    have he := h e (by simp)
    rw [List.drop_succ_cons, flatMap_drop l (fun x hx => h x (by simp [hx])) (by simpa using hl)]
    have h1 : (l + 1) * z = z + l * z := by rw [Nat.succ_mul]; omega
    rw [List.flatMap_cons, h1, ← List.drop_drop, List.drop_append, he]
    rw [Nat.sub_self, List.drop_zero, List.drop_eq_nil_of_le (as := vcells e) (by omega)]
    simp

theorem flatMap_take {z : Nat} : ∀ (l : Nat) {es : List Value}, (∀ e ∈ es, (vcells e).length = z) → l ≤ es.length → (es.take l).flatMap vcells = (es.flatMap vcells).take (l * z)
  | 0, es, _, _ => by simp
  | l + 1, [], _, h => by simp at h
  | l + 1, e :: es, h, hl => by
    have he := h e (by simp)
    have h1 : (l + 1) * z = z + l * z := by rw [Nat.succ_mul]; omega
    rw [List.take_succ_cons, List.flatMap_cons, flatMap_take l (fun x hx => h x (by simp [hx])) (by simpa using hl), List.flatMap_cons, List.take_append, he, h1]
    rw [Nat.add_sub_cancel_left, List.take_of_length_le (l := vcells e) (by omega)]

theorem imslice_V {b o cap z l h : Nat} {es : List Value} {cc : Array Value} (e : φ.im b = some cc) (hz : 0 < z) (h1 : es.length ≤ cap) (h2 : o + es.length * z ≤ cc.size)
    (h3 : ∀ e ∈ es, (vcells e).length = z) (h4 : ∀ j, j < es.length * z → V φ ((es.flatMap vcells).getD j undf) (cc.getD (o + j) undf)) (hl : l ≤ h) (hh : h ≤ es.length) :
    V φ (.iface z (.agg ⟨(es.take h).drop l⟩)) (.slice (if cap = l then some ⟨b, o, none⟩ else some ⟨b, o + l * z, none⟩) (h - l) (cap - l)) := by
  have hm : (h - l) * z + l * z = h * z := by rw [← Nat.add_mul, Nat.sub_add_cancel hl]
  have hn : h * z ≤ es.length * z := Nat.mul_le_mul_right _ hh
  have hlen : ((es.take h).drop l).length = h - l := by simp; omega
  have hfl : ((es.take h).drop l).flatMap vcells = ((es.flatMap vcells).take (h * z)).drop (l * z) := by
    rw [flatMap_drop l (fun x hx => h3 x (List.mem_of_mem_take hx)) (by simp; omega), flatMap_take h h3 hh]
  have h3' : ∀ e ∈ (es.take h).drop l, (vcells e).length = z := fun x hx => h3 x (List.mem_of_mem_take (List.mem_of_mem_drop hx))
  by_cases hc : cap = l
  · rw [if_pos hc]
    have hhl : h - l = 0 := by omega
    refine .imsl e hz hlen (by omega) (by rw [hhl]; omega) h3' (fun j hj => ?_)
    rw [hhl] at hj; omega
  · rw [if_neg hc]
    refine .imsl e hz hlen (by omega) (by omega) h3' (fun j hj => ?_)
    have := h4 (l * z + j) (by omega)
    rw [hfl]
    have e1 : (((es.flatMap vcells).take (h * z)).drop (l * z)).getD j undf = (es.flatMap vcells).getD (l * z + j) undf := by
      simp [List.getD, List.getElem?_drop, List.getElem?_take, show l * z + j < h * z by omega]
    rw [e1, Nat.add_assoc]
    exact this

theorem sim_slice {t e : TypeId} {z : Nat} {x u v : Value} {lo hi lo' hi' : Option Value} (ht : sliceOf P t = some e) (hz : sizeIs P e z = true)
    (h : opSlice z x lo hi = some v) (hx : V φ x u)
    (v1 : ∀ x, hi = some x → ∃ y, hi' = some y ∧ V φ x y) (n1 : hi = none → hi' = none) (v2 : ∀ x, lo = some x → ∃ y, lo' = some y ∧ V φ x y) (n2 : lo = none → lo' = none) :
    ∃ v', (Instr.sliceAt t u lo' hi' none).run P w = .ok v' w ∧ V φ v v' := by
  have hu : P.underlying t = some (.slice e) := by
    unfold sliceOf at ht
    split at ht
    · rename_i hh; simp only [Option.some.injEq] at ht; subst ht; exact hh
    · cases ht
  unfold opSlice at h
  split at h
  · rename_i a len z'
    cases e1 : boundO hi len len with
    | none => rw [e1] at h; cases h
    | some hb =>
      rw [e1] at h
      simp only [Option.bind_some] at h
      cases e2 : boundO lo 0 hb with
      | none => rw [e2] at h; cases h
      | some lb =>
        rw [e2] at h
        simp only [Option.bind_some] at h
        cases ez : Nat.beq z' z <;> rw [ez] at h <;> simp at h
        have ez' := Nat.eq_of_beq_eq_true ez
        subst ez'
        obtain ⟨i, o, b, δ, sz, cap, o', rfl, hb1, hc1, hc2, hc3, hc4, rfl⟩ := hx.inv_sl
        obtain ⟨r1, r2, r3⟩ := run_sliceBounds (P := P) (w := w) (b := true) hc1 e1 e2 v1 n1 v2 n2
        subst h
        refine ⟨_, ?_, slice_V hb1 hc1 hc2 hc3 hc4 r2 r3⟩
        simp only [Instr.sliceAt, Instr.slice, Sem.run_bind, run_underlying hu, Result.andThen_ok, r1, run_sizeOf hz, Sem.run_pure, Option.map_some, addr_add]
  · cases e1 : boundO hi 0 0 with
    | none => rw [e1] at h; cases h
    | some hb =>
      rw [e1] at h
      simp only [Option.bind_some] at h
      cases e2 : boundO lo 0 hb with
      | none => rw [e2] at h; cases h
      | some lb =>
        rw [e2] at h
        simp only [Option.bind_some, Option.some.injEq] at h
        subst h
        obtain ⟨_, _, rfl⟩ := hx.inv_nsl
        obtain ⟨r1, r2, r3⟩ := run_sliceBounds (P := P) (w := w) (b := true) (Nat.le_refl 0) e1 e2 v1 n1 v2 n2
        refine ⟨.slice none 0 0, ?_, .nsl⟩
        have h0 : hb = 0 := by omega
        have l0 : lb = 0 := by omega
        subst h0; subst l0
        simp [Instr.sliceAt, Instr.slice, run_underlying hu, r1, run_sizeOf hz]
  · rename_i z' es
    cases e1 : boundO hi es.length es.length with
    | none => rw [e1] at h; cases h
    | some hb =>
      rw [e1] at h
      simp only [Option.bind_some] at h
      cases e2 : boundO lo 0 hb with
      | none => rw [e2] at h; cases h
      | some lb =>
        rw [e2] at h
        simp only [Option.bind_some] at h
        cases ez : Nat.beq z' z <;> rw [ez] at h <;> simp at h
        have ez' := Nat.eq_of_beq_eq_true ez
        subst ez'
        rcases hx.inv_imsl with ⟨rfl, p1, ad, cap, rfl⟩ | ⟨b, o, cap, cc, rfl, q1, q2, q3, q4, q5, q6⟩
        · obtain ⟨r1, r2, r3⟩ := run_sliceBounds (P := P) (w := w) (b := true) (Nat.zero_le cap) e1 e2 v1 n1 v2 n2
          subst h
          have h0 : hb = 0 := by simpa using r3
          subst h0
          have h0 : lb = 0 := by omega
          subst h0
          exact ⟨.slice (some (if cap = 0 then ad else ad.add (0 * z'))) 0 (cap - 0), by simp only [Instr.sliceAt, Instr.slice, Sem.run_bind, run_underlying hu, Result.andThen_ok, r1, run_sizeOf hz, Sem.run_pure, Option.map_some]; split <;> rfl, .iesl _ p1⟩
        obtain ⟨r1, r2, r3⟩ := run_sliceBounds (P := P) (w := w) (b := true) q3 e1 e2 v1 n1 v2 n2
        subst h
        refine ⟨_, ?_, imslice_V q1 q2 q3 q4 q5 q6 r2 r3⟩
        simp only [Instr.sliceAt, Instr.slice, Sem.run_bind, run_underlying hu, Result.andThen_ok, r1, run_sizeOf hz, Sem.run_pure, Option.map_some, addr_add]
  · cases h

end
end Go.Ev

namespace Go.Ev

section
variable {P : Program} {φ : Emb} {H : Get} {w : World} {B0 : Nat} {F : Fr} {ρ : Operand → Value}

theorem sliceOf_some {t e : TypeId} (h : sliceOf P t = some e) : P.underlying t = some (.slice e) := by
  unfold sliceOf at h
  split at h
  · rename_i hh; simp only [Option.some.injEq] at h; subst h; exact hh
  · cases h
theorem arrayOf_some {t e : TypeId} {n : Nat} (h : arrayOf P t = some (n, e)) : P.underlying t = some (.array n e) := by
  unfold arrayOf at h
  split at h
  · rename_i hh; simp only [Option.some.injEq, Prod.mk.injEq] at h; obtain ⟨rfl, rfl⟩ := h; exact hh
  · cases h
theorem fieldsOf_some {t : TypeId} {fs : Array Field} (h : fieldsOf P t = some fs) : P.underlying t = some (.struct fs) := by
  unfold fieldsOf at h
  split at h
  · rename_i hh; simp only [Option.some.injEq] at h; subst h; exact hh
  · cases h
theorem mapOfT_some {t k e : TypeId} (h : mapOfT P t = some (k, e)) : P.underlying t = some (.map k e) := by
  unfold mapOfT at h
  split at h
  · rename_i hh; simp only [Option.some.injEq, Prod.mk.injEq] at h; obtain ⟨rfl, rfl⟩ := h; exact hh
  · cases h

theorem getD_cut {α : Type} {l : List α} {i : Nat} (d : α) (h : i < l.length) : l[i]? = some (l.getD i d) := by
  simp [List.getD, h]

theorem sim_indexAddr {t e : TypeId} {z : Nat} {x i u j v : Value} (ht : sliceOf P t = some e) (hz : sizeIs P e z = true)
    (h : opIndexAddr z x i = some v) (hx : V φ x u) (hi : V φ i j) : ∃ v', (Instr.indexAt t u j).run P w = .ok v' w ∧ V φ v v' := by
  have hu := sliceOf_some ht
  unfold opIndexAddr at h
  split at h
  · rename_i k n
    rw [hi.inv_int]
    split at h
    · rename_i a len z'
      cases hb : Nat.ble (n + 1) len <;> rw [hb] at h <;> simp at h
      have hn : n + 1 ≤ len := Nat.le_of_ble_eq_true hb
      cases ez : Nat.beq z' z <;> rw [ez] at h <;> simp at h
      have ez' := Nat.eq_of_beq_eq_true ez
      subst ez'
      obtain ⟨i, o, b, δ, sz, cap, o', rfl, hb1, hc1, hc2, hc3, hc4, rfl⟩ := hx.inv_sl
      subst h
      rcases hc4 with rfl | hc4
      · refine ⟨_, ?_, (?_ : V φ _ (.pointer (some ⟨b, δ + (o + n * z'), none⟩)))⟩
        · have : (0 : Int) ≤ n ∧ (n : Int) < len := by omega
          simp [Instr.indexAt, asIntOf, run_underlying hu, this, run_sizeOf hz, addr_add, Nat.add_assoc]
          intro hh; omega
        · exact .ptr hb1
      · omega
    · rename_i z' es
      split at h
      · rename_i el hel
        cases ez : Nat.beq z' z <;> rw [ez] at h <;> simp at h
        have ez' := Nat.eq_of_beq_eq_true ez
        subst ez'
        rcases hx.inv_imsl with ⟨rfl, _⟩ | ⟨b, o, cap, cc, rfl, q1, q2, q3, q4, q5, q6⟩
        · cases hel
        subst h
        obtain ⟨hn, hel'⟩ := List.getElem?_eq_some_iff.1 hel
        have hm : n * z' + z' ≤ es.length * z' := by rw [← Nat.succ_mul]; exact Nat.mul_le_mul_right _ hn
        refine ⟨.pointer (some ⟨b, o + n * z' + 0, none⟩), ?_, ?_⟩
        · have : (0 : Int) ≤ n ∧ (n : Int) < es.length := by omega
          simp [Instr.indexAt, asIntOf, run_underlying hu, this, run_sizeOf hz, addr_add]
          intro hh; omega
        · have hl := q5 el (List.mem_of_getElem? hel)
          refine .imptr q1 (by omega) (fun j hj => ?_)
          have := q6 (n * z' + j) (by omega)
          have e1 : (es.flatMap vcells).getD (n * z' + j) undf = (vcells el).getD j undf := by
            have h1 := flatMap_drop n q5 (by omega)
            have h2 : es.drop n = el :: es.drop (n + 1) := by rw [List.drop_eq_getElem_cons hn, hel']
            rw [h2, List.flatMap_cons] at h1
            have h3 : ((es.flatMap vcells).drop (n * z')).getD j undf = (es.flatMap vcells).getD (n * z' + j) undf := by simp [List.getD]
            rw [← h3, ← h1]
            simp [List.getD, List.getElem?_append, hj]
          rw [e1] at this
          rw [Nat.add_assoc]
          exact this
      · cases h
    · cases h
  · cases h

theorem sim_indexAddrA {t e : TypeId} {m z : Nat} {x i u j v : Value} (ht : arrayOf P t = some (m, e)) (hz : sizeIs P e z = true)
    (h : opIndexAddrA m z x i = some v) (hx : V φ x u) (hi : V φ i j) : ∃ v', (Instr.indexAt t u j).run P w = .ok v' w ∧ V φ v v' := by
  have hu := arrayOf_some ht
  unfold opIndexAddrA at h
  split at h
  · rename_i k n
    rw [hi.inv_int]
    cases hb : Nat.ble (n + 1) m <;> rw [hb] at h <;> simp at h
    have hn : n + 1 ≤ m := Nat.le_of_ble_eq_true hb
    obtain ⟨b, o, rfl, hv⟩ := sim_fieldAddr h hx
    refine ⟨_, ?_, hv⟩
    have h1 : (0 : Int) ≤ n ∧ (n : Int) < m := by omega
    simp [Instr.indexAt, asIntOf, run_underlying hu, Instr.sureAddr, h1, run_sizeOf hz, addr_add]
    intro hh; omega
  · cases h

theorem VL.drop {xs ys : List Value} (h : VL φ xs ys) (n : Nat) : VL φ (xs.drop n) (ys.drop n) := by
  refine ⟨by simp [h.1], fun i hi => ?_⟩
  have := h.2 (n + i) (by simp at hi; omega)
  simpa [List.getD] using this
theorem VL.take {xs ys : List Value} (h : VL φ xs ys) (n : Nat) : VL φ (xs.take n) (ys.take n) := by
  refine ⟨by simp [h.1], fun i hi => ?_⟩
  have hi' : i < n ∧ i < xs.length := by simp at hi; omega
  have := h.2 i hi'.2
  simpa [List.getD, List.getElem?_take, hi'.1] using this

/-- A part of an aggregate. -/
theorem sim_part {t : TypeId} {o n : Nat} {agg : Bool} {xs ys vs : List Value} {v : Value} (ha : aggIs P t agg = true) (hs : sizeIs P t n = true) (hn : agg = true ∨ n = 1)
    (h1 : (drop? o xs).bind (take? n) = some vs) (h2 : partOf agg vs = some v) (hx : VL φ xs ys) : ∃ v', (part t ⟨ys⟩ o).run P w = .ok v' w ∧ V φ v v' := by
  obtain ⟨rfl, hl⟩ := cut_some h1
  cases agg with
  | true =>
    simp only [partOf, cond_true, Option.some.injEq] at h2
    subst h2
    refine ⟨.agg ⟨(ys.drop o).take n⟩, ?_, .agg' ((hx.drop o).take n)⟩
    simp [part, run_isAgg ha, run_sizeOf hs, List.extract_eq_take_drop]
  | false =>
    simp only [Bool.false_eq_true, false_or] at hn
    subst hn
    have ho : o < xs.length := by omega
    have hg := (List.getElem?_eq_some_iff.2 ⟨ho, rfl⟩ : xs[o]? = some xs[o])
    have e1 : (xs.drop o).take 1 = [xs[o]] := by rw [List.drop_eq_getElem_cons ho, List.take_succ_cons, List.take_zero]
    rw [e1] at h2
    simp only [partOf, cond_false, Option.some.injEq] at h2
    subst h2
    obtain ⟨y, hy, hv⟩ := hx.get hg
    refine ⟨y, ?_, hv⟩
    simp [part, run_isAgg ha, hy]

theorem sim_field {t : TypeId} {fs : Array Field} {fd : Field} {f o n : Nat} {agg : Bool} {x u v : Value} (ht : fieldsOf P t = some fs) (hf : fs[f]? = some fd) (ho : fd.offset = o)
    (ha : aggIs P fd.type agg = true) (hs : sizeIs P fd.type n = true) (hn : agg = true ∨ n = 1) (h : opField o n agg x = some v) (hx : V φ x u) :
    ∃ v', (Instr.field t u f).run P w = .ok v' w ∧ V φ v v' := by
  unfold opField at h
  split at h
  · obtain ⟨ys, rfl, hl⟩ := hx.inv_agg
    cases h1 : (drop? o _).bind (take? n) with
    | none => rw [h1] at h; cases h
    | some vs =>
      rw [h1] at h
      obtain ⟨v', r, hv⟩ := sim_part (w := w) ha hs hn h1 h hl
      refine ⟨v', ?_, hv⟩
      simp [Instr.field, run_underlying (fieldsOf_some ht), hf, asAgg, ho, r]
  · cases h

theorem sim_index {t e : TypeId} {m z : Nat} {agg : Bool} {x i u j v : Value} (ht : arrayOf P t = some (m, e)) (ha : aggIs P e agg = true) (hs : sizeIs P e z = true)
    (hn : agg = true ∨ z = 1) (h : opIndex m z agg x i = some v) (hx : V φ x u) (hi : V φ i j) : ∃ v', (Instr.index t u j).run P w = .ok v' w ∧ V φ v v' := by
  unfold opIndex at h
  split at h
  · rename_i c k n
    rw [hi.inv_int]
    obtain ⟨ys, rfl, hl⟩ := hx.inv_agg
    cases hb : Nat.ble (n + 1) m <;> rw [hb] at h <;> simp only [cond_true, cond_false] at h
    · cases h
    have hnm : n + 1 ≤ m := Nat.le_of_ble_eq_true hb
    cases h1 : (drop? (n * z) c).bind (take? z) with
    | none => rw [h1] at h; cases h
    | some vs =>
      rw [h1] at h
      obtain ⟨v', r, hv⟩ := sim_part (w := w) ha hs hn h1 h hl
      refine ⟨v', ?_, hv⟩
      have h1 : (0 : Int) ≤ n ∧ (n : Int) < m := by omega
      simp [Instr.index, asIntOf, run_underlying (arrayOf_some ht), h1, run_sizeOf hs, r]
      intro hh; omega
  · cases h

theorem sim_indexS {t : TypeId} {x i u j v : Value} (ht : P.underlying t = some .string) (h : opIndexS x i = some v) (hx : V φ x u) (hi : V φ i j) :
    (Instr.index t u j).run P w = .ok v w ∧ V φ v v := by
  unfold opIndexS at h
  split at h
  · rename_i s k n
    rw [hi.inv_int, hx.inv_str]
    split at h
    · rename_i c hc
      simp only [Option.some.injEq] at h
      subst h
      refine ⟨?_, .int _ _⟩
      have hc' : s[n]? = some c := by
        have : s.data[n]? = some c := by simpa using hc
        obtain ⟨hlt, h2⟩ := Array.getElem?_eq_some_iff.1 this
        exact getElem?_eq_some_iff.2 ⟨hlt, h2⟩
      have h0 : (0 : Int) ≤ n := by omega
      simp [Instr.index, asIntOf, run_underlying ht, h0, hc']
    · cases h
  · cases h

theorem sim_extract {x u v : Value} {i : Nat} (h : opExtract x i = some v) (hx : V φ x u) : ∃ v', (Instr.extract u i).run P w = .ok v' w ∧ V φ v v' := by
  unfold opExtract at h
  split at h
  · obtain ⟨ys, rfl, hl⟩ := hx.inv_tuple
    obtain ⟨y, hy, hv⟩ := hl.get h
    exact ⟨y, by simp [Instr.extract, hy], hv⟩
  · cases h

theorem sim_len {t : TypeId} {tt : TypeId} {e : TypeId} {x u v : Value} (he : P.underlying t = some (.slice e))
    (h : opLen x = some v) (hx : V φ x u) :
    (Builtin.len_ #[t] tt #[u]).run P w = .ok v w ∧ V φ v v := by
  unfold opLen at h
  split at h
  · rename_i a n z
    simp only [Option.some.injEq] at h
    subst h
    refine ⟨?_, .int _ _⟩
    cases a with
    | none =>
      obtain ⟨rfl, rfl, rfl⟩ := hx.inv_nsl
      simp [Builtin.len_, run_underlying he, goInt]
    | some a =>
      obtain ⟨i, o, b, δ, sz, cap, o', rfl, hb1, hc1, hc2, hc3, hc4, rfl⟩ := hx.inv_sl
      simp [Builtin.len_, run_underlying he, goInt]
  · rename_i z es
    simp only [Option.some.injEq] at h
    subst h
    rcases hx.inv_imsl with ⟨rfl, _, a, cap, rfl⟩ | ⟨b, o, cap, cc, rfl, q⟩
    · exact ⟨by simp [Builtin.len_, run_underlying he, goInt], .int _ _⟩
    · exact ⟨by simp [Builtin.len_, run_underlying he, goInt], .int _ _⟩
  · cases h

theorem sim_lenS {t : TypeId} {tt : TypeId} {x u v : Value} (he : P.underlying t = some .string)
    (h : opLenS x = some v) (hx : V φ x u) :
    (Builtin.len_ #[t] tt #[u]).run P w = .ok v w ∧ V φ v v := by
  unfold opLenS at h
  split at h
  · rename_i s
    simp only [Option.some.injEq] at h
    subst h
    rw [hx.inv_str]
    exact ⟨by simp [Builtin.len_, run_underlying he, goInt], .int _ _⟩
  · cases h

theorem sim_minI : ∀ (l : List Value) (x : Value) {v : Value} {l' : List Value}, minI x l = some v → (∃ k n, x = .int k n) → VL φ l l' →
    (l'.foldlM Builtin.min2 x : Sem Value).run P w = .ok v w ∧ V φ v v
  | [], x, v, l', h, ⟨k, n, hx⟩, hl => by
    simp only [minI, Option.some.injEq] at h
    subst h
    rw [hl.inv_nil]
    subst hx
    exact ⟨by simp, .int _ _⟩
  | y :: l, x, v, l', h, ⟨k, n, hx⟩, hl => by
    subst hx
    obtain ⟨y', ys, rfl, h1, h2⟩ := hl.inv_cons
    cases y with
    | int k2 m =>
      rw [h1.inv_int]
      have := sim_minI l (.int k (if m < n then m else n)) h ⟨_, _, rfl⟩ h2
      simpa [Builtin.min2] using this
    | _ => simp [minI] at h

theorem sim_maxI : ∀ (l : List Value) (x : Value) {v : Value} {l' : List Value}, maxI x l = some v → (∃ k n, x = .int k n) → VL φ l l' →
    (l'.foldlM Builtin.max2 x : Sem Value).run P w = .ok v w ∧ V φ v v
  | [], x, v, l', h, ⟨k, n, hx⟩, hl => by
    simp only [maxI, Option.some.injEq] at h
    subst h
    rw [hl.inv_nil]
    subst hx
    exact ⟨by simp, .int _ _⟩
  | y :: l, x, v, l', h, ⟨k, n, hx⟩, hl => by
    subst hx
    obtain ⟨y', ys, rfl, h1, h2⟩ := hl.inv_cons
    cases y with
    | int k2 m =>
      rw [h1.inv_int]
      have := sim_maxI l (.int k (if m > n then m else n)) h ⟨_, _, rfl⟩ h2
      simpa [Builtin.max2] using this
    | _ => simp [maxI] at h

theorem sim_min {l : List Value} {l' : List Value} {v : Value} {ts : Array TypeId} {t : TypeId} (h : opMin l = some v) (hl : VL φ l l') :
    (Builtin.min_ ts t ⟨l'⟩).run P w = .ok v w ∧ V φ v v := by
  unfold opMin at h
  split at h
  · obtain ⟨y, ys, rfl, h1, h2⟩ := hl.inv_cons
    rw [h1.inv_int]
    exact sim_minI _ _ h ⟨_, _, rfl⟩ h2
  · cases h
theorem sim_max {l : List Value} {l' : List Value} {v : Value} {ts : Array TypeId} {t : TypeId} (h : opMax l = some v) (hl : VL φ l l') :
    (Builtin.max_ ts t ⟨l'⟩).run P w = .ok v w ∧ V φ v v := by
  unfold opMax at h
  split at h
  · obtain ⟨y, ys, rfl, h1, h2⟩ := hl.inv_cons
    rw [h1.inv_int]
    exact sim_maxI _ _ h ⟨_, _, rfl⟩ h2
  · cases h

end
end Go.Ev

