/-
  The transformer of one quiet operation is sound: if it holds, the machine's own run of the operation gives a value of which the rest holds, and leaves memory as it was.
-/
import Derived.Test.YtgmopcbfgcagaaaDoorV
namespace Go.Proofs.YtgmopcbfgcagaaaDoor.V
open Go Go.RowKit

section
variable {P : Program} {tt : TT} {n : Nat} {a : Act} {fr : Fr} {w : World} {L : Addr → Value → Prop} {K : Value → Prop}

theorem TOk.und (h : TOk P tt) {t : Nat} {i : TI} (hi : tfind tt t = some i) (w : World) : (underlying t).run P w = .ok i.und w := by
  have := (h.ok t i hi).1
  exact run_underlying this w

theorem TOk.info (h : TOk P tt) {t : Nat} {i : TI} (hi : tfind tt t = some i) : ∃ info : TypeInfo, P.info? t = some info ∧ info.size = i.size ∧ info.bytes = i.bytes ∧ info.zero = some i.zero := (h.ok t i hi).2

theorem TOk.typeInfo (h : TOk P tt) {t : Nat} {i : TI} (hi : tfind tt t = some i) (w : World) : ∃ info : TypeInfo, (typeInfo t).run P w = .ok info w ∧ info.size = i.size ∧ info.bytes = i.bytes ∧ info.zero = some i.zero := by
  obtain ⟨info, h1, h2, h3, h4⟩ := h.info hi
  exact ⟨info, by simp [Go.typeInfo, h1], h2, h3, h4⟩

theorem TOk.sizeOf (h : TOk P tt) {t : Nat} {i : TI} (hi : tfind tt t = some i) (w : World) : (sizeOf t).run P w = .ok i.size w := by
  obtain ⟨info, h1, h2, _, _⟩ := h.typeInfo hi w
  simp [Go.sizeOf, h1, h2]

theorem TOk.zeroValue (h : TOk P tt) {t : Nat} {i : TI} (hi : tfind tt t = some i) (w : World) : (zeroValue t).run P w = .ok i.zero w := by
  obtain ⟨info, h1, _, _, h4⟩ := h.typeInfo hi w
  simp [Go.zeroValue, h1, h4]

theorem TOk.isAgg (h : TOk P tt) {t : Nat} {i : TI} (hi : tfind tt t = some i) (w : World) : (isAgg t).run P w = .ok (aggT i.und) w := by
  have h1 := h.und hi w
  unfold Go.isAgg
  simp only [Sem.run_bind, h1, Result.andThen_ok]
  cases i.und <;> simp [aggT]

theorem load_cells (b : Addr) (cs : List Value) (hL : ∀ j v, cs[j]? = some v → w.cell? (b.add j) = some v) :
    ∀ (m k : Nat) (acc : Array Value), k + m = cs.length → (loadCellsFrom b k m acc).run P w = .ok (acc ++ (cs.drop k).toArray) w
  | 0, k, acc, h => by
    have : cs.drop k = [] := List.drop_eq_nil_of_le (by omega)
    simp [loadCellsFrom, this]
  | m + 1, k, acc, h => by
    have hk : k < cs.length := by omega
    have hc := hL k cs[k] (List.getElem?_eq_getElem hk)
    have ih := load_cells b cs hL m (k + 1) (acc.push cs[k]) (by omega)
    unfold loadCellsFrom
    simp only [Sem.run_bind, run_load, hc, Result.andThen_ok, ih]
    rw [List.drop_eq_getElem_cons hk]
    simp

theorem add_vaddr (b : Addr) (hs : b.spot = none) (k : Nat) : b.add k = vaddr b k := by
  obtain ⟨bl, o, s⟩ := b
  simp only at hs
  subst hs
  cases k <;> simp [Addr.add, vaddr]

theorem bounds_run (x : Value) (k : IntKind) (l : Nat) (hx : x = .int k (l : Int)) (y : Nat) (hy : l ≤ y) (c : BoundsCode) : (Instr.sliceBound x y c).run P w = .ok l w := by
  subst hx
  have : (0 : Int) ≤ (l : Int) ∧ (l : Int) ≤ (y : Int) := by omega
  simp [Instr.sliceBound, asIntOf, hy]

theorem loadAt_run (htt : TOk P tt) {t : Nat} {i : TI} (hi : tfind tt t = some i) (b : Addr)
    (h : match aggT i.und with
        | true => VLoads L b i.size fun cs => K (.agg cs.toArray)
        | false => VLoad L b K) : ∃ v, K v ∧ ∀ w : World, (∀ a v, L a v → w.cell? a = some v) → (Instr.loadAt t (.pointer (some b))).run P w = .ok v w := by
  have h1 := htt.isAgg hi
  cases hb : aggT i.und with
  | true =>
    rw [hb] at h h1
    obtain ⟨cs, hlen, hc, hk⟩ := h.h
    refine ⟨_, hk, fun w hL => ?_⟩
    have hr := load_cells (P := P) (w := w) b cs (fun j v hv => hL _ _ (hc j v hv)) cs.length 0 #[] (by omega)
    simp only [List.drop_zero, Array.empty_append] at hr
    simp [Instr.loadAt, Instr.sureAddr, loadVar, h1, htt.sizeOf hi, loadCells, ← hlen, hr]
  | false =>
    rw [hb] at h h1
    obtain ⟨u, hl, hk⟩ := h.h
    exact ⟨u, hk, fun w hL => by simp [Instr.loadAt, Instr.sureAddr, loadVar, h1, hL _ _ hl]⟩

theorem vcmp_elim {c : Prop} {K : Value → Prop} (h : vcmp c K) [Decidable c] : K (.bool (decide c)) := by
  by_cases hc : c
  · simpa [hc] using h.t hc
  · simpa [hc] using h.f hc

theorem eqGuard_quiet (op : BinOp) (t : TypeId) (x y : Operand) (u v : Value) (h1 : ∀ c d, ¬ (u = .agg c ∧ v = .agg d)) (h2 : ¬ (u = .nilIface ∧ v = .nilIface)) : (eqGuard op t x y u v).run P w = .ok () w := by
  unfold eqGuard
  cases op <;> first
    | rfl
    | (cases u <;> cases v <;> first | rfl | (exfalso; first | exact h1 _ _ ⟨rfl, rfl⟩ | exact h2 ⟨rfl, rfl⟩))

theorem bin_run (op : BinOp) (t : TypeId) (k : IntKind) (m l : Int) (h : vbin op k m l K) : ∃ v, K v ∧ ∀ w, (binOp op t (.int k m) (.int k l)).run P w = .ok v w := by
  cases op <;> simp only [vbin] at h
  case add => exact ⟨_, h.h, fun w => by simp [binOp, Op.intArith]⟩
  case sub => exact ⟨_, h.h, fun w => by simp [binOp, Op.intArith]⟩
  case mul => exact ⟨_, h.h, fun w => by simp [binOp, Op.intArith]⟩
  case quo => obtain ⟨h0, h⟩ := h; exact ⟨_, h.h, fun w => by simp [binOp, Op.intDiv, h0]⟩
  case rem => obtain ⟨h0, h⟩ := h; exact ⟨_, h.h, fun w => by simp [binOp, Op.intDiv, h0]⟩
  case and => exact ⟨_, h.h, fun w => by simp [binOp, Op.intBits]⟩
  case or => exact ⟨_, h.h, fun w => by simp [binOp, Op.intBits]⟩
  case xor => exact ⟨_, h.h, fun w => by simp [binOp, Op.intBits]⟩
  case andNot => exact ⟨_, h.h, fun w => by simp [binOp, Op.intBits]⟩
  case eql => exact ⟨_, vcmp_elim h, fun w => by simp [binOp, Op.intCmp]; rfl⟩
  case neq => exact ⟨_, vcmp_elim h, fun w => by simp [binOp, Op.intCmp]; rfl⟩
  case lss => exact ⟨_, vcmp_elim h, fun w => by simp [binOp, Op.intCmp]⟩
  case leq => exact ⟨_, vcmp_elim h, fun w => by simp [binOp, Op.intCmp]⟩
  case gtr => exact ⟨_, vcmp_elim h, fun w => by simp [binOp, Op.intCmp]⟩
  case geq => exact ⟨_, vcmp_elim h, fun w => by simp [binOp, Op.intCmp]⟩

theorem shift_run (op : BinOp) (t : TypeId) (k k' : IntKind) (m l : Int) (h : vshift op k m l K) : ∃ v, K v ∧ ∀ w, (binOp op t (.int k m) (.int k' l)).run P w = .ok v w := by
  obtain ⟨h0, h⟩ := h
  have h0' : ¬ l < 0 := by omega
  cases op <;> simp only at h
  case shl => exact ⟨_, h.h, fun w => by simp [binOp, Op.shift, h0']⟩
  case shr => exact ⟨_, h.h, fun w => by simp [binOp, Op.shift, h0']⟩

theorem equalIn_und {t : TypeId} {x y : Value} (b : Bool)
    (h : ∀ (w : World) (dd : Nat), (Op.equalIn (dd + 1) t x y).run P w = .ok b w) : ∀ w, (Op.equal t x y).run P w = .ok b w := fun w => h w 9999

/-- The two values are none of those that an operation of numbers or texts takes. -/
def offNumbers : Value → Value → Bool
  | .agg _, .agg _ => false
  | .int _ _, .int _ _ => false
  | .string _, .string _ => false
  | .float _ _, .float _ _ => false
  | .complex _ _ _, .complex _ _ _ => false
  | _, _ => true

theorem equal_nil (htt : TOk P tt) {t : TypeId} {yc : Bool} {x y : Value} {K : Bool → Prop} (h : vnil tt t yc x y K) : ∃ b, K b ∧ (∀ w, (Op.equal t x y).run P w = .ok b w) ∧
    offNumbers x y = true ∧ (x = .nilIface ∧ y = .nilIface → yc = true) := by
  unfold vnil at h
  split at h
  · split at h
    · rename_i hi
      have := htt.und hi
      exact ⟨_, h, equalIn_und _ (fun w dd => by simp only [Op.equalIn, Sem.run_bind, this, Result.andThen_ok]; rfl), rfl, fun _ => rfl⟩
    · exact h.elim
  · split at h
    · rename_i hi
      have := htt.und hi
      exact ⟨_, h, equalIn_und _ (fun w dd => by simp only [Op.equalIn, Sem.run_bind, this, Result.andThen_ok]; rfl), rfl, fun e => by cases e.1⟩
    · exact h.elim
  · split at h
    · rename_i u _ _ _ _ _ hi
      have := htt.und hi
      refine ⟨_, h, equalIn_und _ (fun w dd => ?_), rfl, fun e => by cases e.1⟩
      cases u <;> (simp only [Op.equalIn, Sem.run_bind, this, Result.andThen_ok]; rfl)
    · exact h.elim
  · split at h
    · rename_i u _ _ _ _ _ _ _ _ _ hi
      have := htt.und hi
      refine ⟨_, h, equalIn_und _ (fun w dd => ?_), rfl, fun e => by cases e.1⟩
      cases u <;> (simp only [Op.equalIn, Sem.run_bind, this, Result.andThen_ok]; rfl)
    · exact h.elim
  · split at h
    · rename_i hi
      have := htt.und hi
      exact ⟨_, h, equalIn_und _ (fun w dd => by simp only [Op.equalIn, Sem.run_bind, this, Result.andThen_ok]; rfl), rfl, fun e => by cases e.1⟩
    · exact h.elim
  · split at h
    · rename_i hi
      have := htt.und hi
      exact ⟨_, h, equalIn_und _ (fun w dd => by simp only [Op.equalIn, Sem.run_bind, this, Result.andThen_ok]; rfl), rfl, fun e => by cases e.1⟩
    · exact h.elim
  · split at h
    · rename_i hi
      have := htt.und hi
      exact ⟨_, h, equalIn_und _ (fun w dd => by simp only [Op.equalIn, Sem.run_bind, this, Result.andThen_ok]; rfl), rfl, fun e => by cases e.1⟩
    · exact h.elim
  · exact h.elim

theorem lput_eq (cells : List Value) (off : Nat) (vs : List Value) (h : off + vs.length ≤ cells.length) : lput cells off vs = cells.take off ++ vs ++ cells.drop (off + vs.length) := by
  unfold lput
  split
  · rename_i v
    rw [List.set_eq_take_append_cons_drop, if_pos (by simp at h; omega)]
    simp
  · rfl

theorem foldl_put (off : Nat) : ∀ (vs : List Value) (k : Nat) (cells : List Value), off + k + vs.length ≤ cells.length →
    (vs.zipIdx k).foldl (fun (cs : Array Value) (x : Value × Nat) => cs.setIfInBounds (off + x.2) x.1) cells.toArray = (cells.take (off + k) ++ vs ++ cells.drop (off + k + vs.length)).toArray
  | [], k, cells, _ => by simp
  | v :: vs, k, cells, h => by
    simp only [List.length_cons] at h
    rw [List.zipIdx_cons, List.foldl_cons]
    have ih := foldl_put off vs (k + 1) (cells.set (off + k) v) (by simp; omega)
    simp only [List.setIfInBounds_toArray]
    rw [ih]
    have e1 : (cells.set (off + k) v).take (off + (k + 1)) = cells.take (off + k) ++ [v] := by
      rw [show off + (k + 1) = (off + k) + 1 from by omega, List.take_add_one]
      rw [List.take_set_of_le (by omega)]
      simp [List.getElem?_set, show off + k < cells.length from by omega]
    have e2 : (cells.set (off + k) v).drop (off + (k + 1) + vs.length) = cells.drop (off + k + (vs.length + 1)) := by
      rw [List.drop_set_of_lt (by omega)]
      congr 1; omega
    rw [e1, e2]
    simp [List.append_assoc]

theorem lfill_eq (place : Nat → Option (Nat × Nat)) : ∀ (parts : List (Nat × Value)) (cells cs : List Value), lfill place cells parts = some cs → Instr.fill place cells.toArray parts = some cs.toArray
  | [], cells, cs, h => by
    simp only [lfill, Option.some.injEq] at h
    subst h
    rfl
  | (i, v) :: r, cells, cs, h => by
    unfold lfill at h
    unfold Instr.fill
    cases hp : place i with
    | none => rw [hp] at h; cases h
    | some x =>
      obtain ⟨off, size⟩ := x
      rw [hp] at h
      dsimp only at h ⊢
      cases hb : (Nat.beq v.cells.toList.length size && Nat.ble (off + size) cells.length) with
      | false => rw [hb] at h; cases h
      | true =>
        rw [hb] at h
        simp only [Bool.and_eq_true] at hb
        have h1 : v.cells.toList.length = size := Nat.eq_of_beq_eq_true hb.1
        have h2 : off + size ≤ cells.length := Nat.le_of_ble_eq_true hb.2
        have h3 : v.cells.size = size := by simpa using h1
        have hn : (decide (v.cells.size ≠ size) || decide (off + v.cells.size > cells.toArray.size)) = false := by
          simp only [h3, ne_eq, not_true_eq_false, decide_false, Bool.false_or, decide_eq_false_iff_not]
          simp; omega
        rw [if_neg (by rw [hn]; simp)]
        have e : Array.foldl (fun (cs : Array Value) (x : Value × Nat) => cs.setIfInBounds (off + x.2) x.1) cells.toArray v.cells.zipIdx = (lput cells off v.cells.toList).toArray := by
          have := foldl_put off v.cells.toList 0 cells (by omega)
          rw [lput_eq _ _ _ (by omega)]
          simp only [Nat.add_zero] at this
          rw [← this]
          rw [← Array.foldl_toList]
          simp
        have e' := lfill_eq place r _ cs h
        rw [← e] at e'
        exact e'

theorem zipNV_eq : ∀ (l : List (Nat × Operand)) (f : Operand → Value), zipNV (firsts l) ((seconds l).map f) = l.map fun x => (x.1, f x.2)
  | [], _ => rfl
  | (i, x) :: r, f => by
    show (i, f x) :: zipNV (firsts r) ((seconds r).map f) = _
    rw [zipNV_eq r f]
    rfl

theorem allFound_spec : ∀ (l : List Field), allFound tt l = true → ∀ f ∈ l, (tfind tt f.type).isSome = true
  | [], _, f, hf => by cases hf
  | g :: r, h, f, hf => by
    unfold allFound at h
    cases hg : tfind tt g.type with
    | none => rw [hg] at h; cases h
    | some i =>
      rw [hg] at h
      cases hf with
      | head => rw [hg]; rfl
      | tail _ hm => exact allFound_spec r h f hm

theorem places_eq (l : List Field) (hall : ∀ f ∈ l, (tfind tt f.type).isSome = true) : fieldPlaces tt l = l.map fun f => (f.offset, ((tfind tt f.type).map (·.size)).getD 0) := by
  induction l with
  | nil => rfl
  | cons f l ih =>
    unfold fieldPlaces
    rw [ih (fun g hg => hall g (by simp [hg]))]
    cases h : tfind tt f.type <;> simp [h]

end
end Go.Proofs.YtgmopcbfgcagaaaDoor.V
