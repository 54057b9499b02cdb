/-
  Arrays of bytes, as they come in.
-/
import Derived.Test.YtoeijgbjgbgelaaDoorVl
import Derived.Test.YtoeijgbjgbgelaaDoorVp
import Derived.Laws.StructEq
namespace Go.Proofs.YtoeijgbjgbgelaaDoor
open Go V Go.ChangeShapes Go.WideShapes

section
variable {H : Type} {enc : TypeId × Value → H} {P : Program} {w : World} {spare : Nat → Bool} {held : Bool}
theorem okWide_arr8 {t e : TypeId} {n : Nat} {r : Reach} {base : Nat} {v : Value} (ht : P.underlying t = some (.array n e)) (h : Value.okWide P w r base t v) : ∃ cs, v = .agg cs := by
  simp only [Value.okWide, ht] at h
  obtain ⟨cs, h1, _, _⟩ := h
  exact ⟨cs, h1⟩
theorem open_arr8 {t e : TypeId} {n fuel : Nat} {cs : Array Value} {x : DataW H × List MemPlace} (ht : P.underlying t = some (.array n e)) (he : P.underlying e = some (.int .u8)) (hce : P.cellsOf e = 1) (hct : P.cellsOf t = n)
    (h : DataW.trod enc P w 0 spare held fuel t cs.toList = some x) : ∃ l : List UInt8, cs = (l.map vb).toArray ∧ l.length = n := by
  obtain ⟨xs, m, _, _, hlen, hxl, hat⟩ := DataW.trod_array ht h
  rw [hct] at hlen
  have each : ∀ i, i < n → ∃ b : UInt8, cs.toList[i]? = some (vb b) := by
    intro i hi
    have h1 := hat i hi
    rw [hce, Nat.mul_one, List.getElem?_eq_getElem (by omega)] at h1
    obtain ⟨a, ea, _, wa⟩ := DataW.trod_int he h1
    obtain ⟨b, rfl⟩ := byte_of wa
    refine ⟨b, ?_⟩
    have e2 : cs.toList[i]? = ((cs.toList.drop i).take 1)[0]? := by
      rw [List.getElem?_take_of_lt (by omega), List.getElem?_drop, Nat.add_zero]
    rw [e2, ea]; rfl
  obtain ⟨G, hG⟩ := Go.Deep.choose_lt each
  refine ⟨(List.range n).map G, ?_, by simp⟩
  have : cs.toList = ((List.range n).map G).map vb := by
    apply List.ext_getElem?
    intro i
    rcases Nat.lt_or_ge i n with hi | hi
    · rw [hG i hi, List.getElem?_map, List.getElem?_map, List.getElem?_range hi]; rfl
    · rw [List.getElem?_eq_none (by omega), List.getElem?_eq_none (by simp; omega)]
  rw [← this]
end

theorem VRes.not8 {x : UInt8} {a : Int} {K : Value → Prop} (ha : a = (x.toNat : Int)) (hK : K (vb (~~~x))) :
    VRes (.int .u8 (IntKind.wrap .u8 ((BitVec.ofInt (IntKind.bits .u8) (if IntKind.signed .u8 = true then -1 else IntKind.max .u8) ^^^ BitVec.ofInt (IntKind.bits .u8) a).toNat : Int))) K := by
  subst ha
  have e : BitVec.ofInt 8 (if IntKind.signed .u8 = true then -1 else IntKind.max .u8) = BitVec.allOnes 8 := by decide
  show VRes (.int .u8 (IntKind.wrap .u8 ((BitVec.ofInt 8 (if IntKind.signed .u8 = true then -1 else IntKind.max .u8) ^^^ BitVec.ofInt 8 (x.toNat : Int)).toNat : Int))) K
  rw [e]
  show VRes (.int .u8 (IntKind.wrap .u8 ((BitVec.allOnes 8 ^^^ BitVec.ofInt 8 (x.toNat : Int)).toNat : Int))) K
  rw [ofInt_toNat8, wrap_nat8, Nat.mod_eq_of_lt (BitVec.isLt _), BitVec.allOnes_xor]
  exact ⟨by simpa [vb] using hK⟩
theorem eq_loop {P : Program} {e : TypeId} {d : Nat} {k : IntKind} (he : P.underlying e = some (.int k)) (ca cb : Array Value) (va vb : Nat → Int) (n : Nat) (ha : ∀ i, i < n → ca[i]? = some (.int k (va i))) (hb : ∀ i, i < n → cb[i]? = some (.int k (vb i))) :
    ∀ (l : Nat) (s : Nat) (w : World), s + l = n →
    Sem.run P (forIn (List.range' s l 1) ((none : Option Bool), ()) fun i __s => do
              let __do_lift ← part e ca (i * 1)
              let __do_lift_1 ← part e cb (i * 1)
              let __do_lift ← Op.equalIn (d + 1) e __do_lift __do_lift_1
              if (!__do_lift) = true then pure (ForInStep.done (some false, ())) else pure (ForInStep.yield (none, ()))) w
     = .ok (if (List.range' s l 1).all (fun i => va i == vb i) = true then (none, ()) else (some false, ())) w := by
  intro l
  induction l with
  | zero =>
    intro s w hs
    simp
  | succ l ih =>
    intro s w hs
    rw [List.range'_succ]
    have pa : (part e ca (s * 1)).run P w = .ok (.int k (va s)) w := by
      simp [part, isAgg, run_underlying he, ha s (by omega)]
    have pb : (part e cb (s * 1)).run P w = .ok (.int k (vb s)) w := by
      simp [part, isAgg, run_underlying he, hb s (by omega)]
    simp only [List.forIn_cons, Sem.run_bind, pa, pb, Result.andThen_ok, run_equalIn_int w d e k k _ _ he, List.all_cons]
    rcases Bool.eq_false_or_eq_true (va s == vb s) with h | h
    · simp only [h, Bool.not_true, Bool.false_eq_true, if_false, Sem.run_pure, Result.andThen_ok, Bool.true_and]
      exact ih (s + 1) w (by omega)
    · simp [h, Result.andThen]
theorem run_equal_arr {P : Program} (w : World) (d : Nat) {t e : TypeId} {k : IntKind} {xs ys : Array Value} {n : Nat} (ht : P.underlying t = some (.array n e)) (he : P.underlying e = some (.int k)) {info : TypeInfo} (h1 : P.info? e = some info) (h2 : info.size = 1) (va vb : Nat → Int) (ha : ∀ i, i < n → xs[i]? = some (.int k (va i))) (hb : ∀ i, i < n → ys[i]? = some (.int k (vb i))) :
    (Op.equalIn (d + 2) t (.agg xs) (.agg ys)).run P w = .ok ((List.range n).all (fun i => va i == vb i)) w := by
  rw [Op.equalIn]
  simp only [Sem.run_bind, run_underlying ht, Result.andThen_ok, run_program, Go.sizeOf, Go.typeInfo, h1, Sem.run_pure, h2]
  rw [Std.Legacy.Range.forIn_eq_forIn_range']
  have := eq_loop (d := d) he xs ys va vb n ha hb n 0 w (by omega)
  simp only [show ([:n] : Std.Legacy.Range).size = n from by simp [Std.Legacy.Range.size]]
  rw [this, List.range_eq_range']
  cases (List.range' 0 n).all fun i => va i == vb i <;> simp [Result.andThen]

/-- Two arrays of bytes, one held against the other. -/
theorem VOther.eqArr8 {P : Program} {fr : Fr} {w : World} {o : Oper} {K : Value → World → Prop} {x y : Operand} {t u e : TypeId} {n : Nat} {a b : List UInt8} (ho : o.op = .binOp .eql t x y u)
    (hx : V.evo fr x = some (.agg (a.map vb).toArray)) (hy : V.evo fr y = some (.agg (b.map vb).toArray)) (ht : P.underlying t = some (.array n e)) (he : P.underlying e = some (.int .u8)) (hz : (P.info? e).map (fun i => i.size) = some 1) (hm : P.eqGuardType P.depth t = false)
    (hla : a.length = n) (hlb : b.length = n) (hK : K (.bool (decide (a = b))) w) : VOther P fr w o K := by
  refine ⟨fun m act hr => ⟨.bool (decide (a = b)), w, ?_, hK⟩⟩
  obtain ⟨info, h1, h2⟩ : ∃ info, P.info? e = some info ∧ info.size = 1 := by
    cases h : P.info? e with
    | none => rw [h] at hz; cases hz
    | some i => rw [h] at hz; exact ⟨i, rfl, by simpa using hz⟩
  obtain ⟨dst, op, ty, pos, after, gd⟩ := o
  simp only at ho
  subst ho
  have ex := hr.evo hx
  have ey := hr.evo hy
  have key := run_equal_arr (P := P) w 9998 ht he h1 h2 (xs := (a.map vb).toArray) (ys := (b.map vb).toArray) (fun i => ((a.getD i 0).toNat : Int)) (fun i => ((b.getD i 0).toNat : Int))
    (fun i hi => by simp [vb, List.getElem?_eq_getElem (show i < a.length by omega)]) (fun i hi => by simp [vb, List.getElem?_eq_getElem (show i < b.length by omega)])
  have hd : (List.range n).all (fun i => ((a.getD i 0).toNat : Int) == ((b.getD i 0).toNat : Int)) = decide (a = b) := by
    rw [Bool.eq_iff_iff, decide_eq_true_eq, List.all_eq_true]
    constructor
    · intro h
      apply List.ext_getElem (by omega)
      intro i h3 h4
      have := h i (List.mem_range.2 (by omega))
      simp only [beq_iff_eq] at this
      rw [List.getD_eq_getElem?_getD, List.getD_eq_getElem?_getD, List.getElem?_eq_getElem h3, List.getElem?_eq_getElem h4] at this
      have h9 : ((a[i].toNat : Nat) : Int) = ((b[i].toNat : Nat) : Int) := by simpa using this
      exact UInt8.toNat_inj.1 (by omega)
    · rintro rfl i _
      simp
  rw [hd] at key
  simp only [execOp, ex, ey, Sem.run_bind, run_eqGuard_agg w .eql t x y _ _ hm, Result.andThen_ok, run_eql_struct, key]
  simp [Result.andThen]
end Go.Proofs.YtoeijgbjgbgelaaDoor
