/-
  The listed package variables (of errors, of unicode/utf8): from a row's condition to their cells; a world that meets the condition. (After the kit's worked texts ToyasProofs and PinupProofs.)
-/
import Derived.Test.YtoeijgbjgbgelaaDoorA1
import Derived.Test.YtoeijgbjgbgelaaDoorRows
import Derived.Test.YtoeijgbjgbgelaaDoorTie
import Derived.Test.YtoeijgbjgbgelaaDoorCards
import Derived.ChangeSame
import Derived.ChangeVars
import Derived.JoinedOf
import Derived.RowKit
import Derived.RowKitTokens
import Derived.LaidLaws
import Derived.LaidHandle
import Derived.LaidSub
import Derived.Lay
import Derived.OpenShut
import Derived.Stop.Joined
import Derived.SevenTiedAt
namespace Go.Proofs.YtoeijgbjgbgelaaDoor
open Go V Go.ChangeShapes Go.WideShapes Go.RowKit

abbrev laidP : List (String × DataW Unit) := [("unicode/utf8.acceptRanges", Rows.laid_unicode_utf8_acceptRanges), ("unicode/utf8.first", Rows.laid_unicode_utf8_first)]
abbrev laidE : List (String × DataW Unit) := [("errors.errorType", Rows.laid_errors_errorType)]
abbrev laidL : List (String × DataW Unit) := [("unicode/utf8.acceptRanges", Rows.laid_unicode_utf8_acceptRanges), ("errors.errorType", Rows.laid_errors_errorType), ("unicode/utf8.first", Rows.laid_unicode_utf8_first)]
theorem laid_et : Tryd.prog.globalNamed "errors.errorType" = some 0 := by kernel_rfl
theorem laid_ar : Tryd.prog.globalNamed "unicode/utf8.acceptRanges" = some 2 := by kernel_rfl
theorem laid_fi : Tryd.prog.globalNamed "unicode/utf8.first" = some 1 := by kernel_rfl
theorem laid_rt : (Tryd.prog.cutTypes.find? (·.1 == "internal/reflectlite.rtype")).map (·.2) = some 93 := by kernel_rfl
theorem laid_oneRow : ((List.range 145).filter fun t => Tryd.prog.rowNamed t [101, 114, 114, 111, 114]) = [40] := by kernel_rfl
theorem laid_size : Tryd.prog.types.size = 145 := by kernel_rfl

theorem laid_split {W : World} (h : laidMetH Tryd.prog laidL W) : laidMet Tryd.prog laidP W ∧ handlesMet Tryd.prog laidE W := laidMetH_iff.1 h

theorem handle_of_laid1 {W : World} (h : laidMetH Tryd.prog laidL W) : EtOk W := by
  obtain ⟨name, u, ty, e1, e2, e3, e4, e5⟩ := (laid_split h).2 _ (List.mem_singleton.2 rfl)
  have en : name = [101, 114, 114, 111, 114] := (Option.some.inj e1).symm
  subst en
  obtain rfl := Option.some.inj (laid_rt.symm.trans e2)
  have hm : ty ∈ (List.range 145).filter fun t => Tryd.prog.rowNamed t [101, 114, 114, 111, 114] := List.mem_filter.2 ⟨List.mem_range.2 (by rw [← laid_size]; exact e3), e4⟩
  rw [laid_oneRow] at hm
  obtain rfl := List.mem_singleton.1 hm
  have hh : typeHandle Tryd.prog 40 = .pointer (some ⟨3, 40, none⟩) := by kernel_rfl
  rw [hh] at e5
  unfold EtOk
  simpa using World.var?_cell laid_et e5 0

/-- The tables of unicode/utf8 as their cells. -/
def U8Ok (w : World) : Prop := (∀ r, r < 256 → w.cell? ⟨1, r, none⟩ = some (.int .u8 ((Go.Pinned.utf8FirstZ.getD r 0 : Nat) : Int))) ∧
  ∀ i, i < 5 → w.cell? ⟨2, 2 * i, none⟩ = some (.int .u8 (([128, 160, 128, 144, 128].getD i 0 : Nat) : Int)) ∧ w.cell? ⟨2, 2 * i + 1, none⟩ = some (.int .u8 (([191, 191, 159, 191, 143].getD i 0 : Nat) : Int))
theorem U8Ok.keepNo {w w' : World} (h : U8Ok w) (k : Keep No w w') : U8Ok w' :=
  ⟨fun r hr => k.cell (h.1 r hr) id, fun i hi => ⟨k.cell (h.2 i hi).1 id, k.cell (h.2 i hi).2 id⟩⟩

set_option maxRecDepth 100000 in
theorem tables_of_laid {W : World} (h : laidMetH Tryd.prog laidL W) : U8Ok W := by
  obtain ⟨ps, ⟨g, t, cs, fuel, p, q, hg, ht, hv, hd, ⟨g2, t2, cs2, fuel2, p2, q2, hg2, ht2, hv2, hd2, _, _⟩, _⟩, _, _⟩ := (laid_split h).1
  obtain rfl := Option.some.inj (laid_ar.symm.trans hg)
  obtain rfl := Option.some.inj (laid_fi.symm.trans hg2)
  obtain rfl := Option.some.inj ((show (Tryd.prog.globals[2]?).map (·.type) = some 114 by kernel_rfl).symm.trans ht)
  obtain rfl := Option.some.inj ((show (Tryd.prog.globals[1]?).map (·.type) = some 111 by kernel_rfl).symm.trans ht2)
  have c5 : Tryd.prog.cellsOf 5 = 1 := by kernel_rfl
  have c2 : Tryd.prog.cellsOf 113 = 2 := by kernel_rfl
  refine ⟨fun r hr => ?_, fun i hi => ?_⟩
  · obtain ⟨xs, m, _, ex, _, hl, hel⟩ := DataW.trod_array Tryd.underlying111 hd2
    have hE := hel r hr
    rw [c5, Nat.mul_one, List.getElem?_eq_getElem (by omega)] at hE
    obtain ⟨z, e1, e2, _⟩ := DataW.trod_int Tryd.underlying5 hE
    have hlen : Go.Pinned.utf8FirstZ.length = 256 := by kernel_rfl
    have e3 : (xs.map (·.1)) = Go.Pinned.utf8FirstZ.map fun (n : Nat) => .lit (.int .u8 n) := (DataW.agg.inj (Prod.mk.inj ex).1).symm
    have e4 : (xs.map (·.1))[r]? = (Go.Pinned.utf8FirstZ.map fun (n : Nat) => (DataW.lit (.int .u8 n) : DataW Unit))[r]? := by rw [e3]
    rw [List.getElem?_map, List.getElem?_map, List.getElem?_eq_getElem (by omega : r < xs.length), List.getElem?_eq_getElem (by omega : r < Go.Pinned.utf8FirstZ.length), e2] at e4
    have hz : z = ((Go.Pinned.utf8FirstZ.getD r 0 : Nat) : Int) := by
      simp only [Option.map_some, Option.some.injEq, DataW.lit.injEq, Lit.int.injEq, true_and] at e4
      rw [e4, List.getD, List.getElem?_eq_getElem (by omega : r < Go.Pinned.utf8FirstZ.length)]; rfl
    rw [World.var?_cell hg2 hv2 r, ← hz]
    have : cs2.toList[r]? = some (.int .u8 z) := by
      have h0 : ((cs2.toList.drop r).take 1)[0]? = some (.int .u8 z) := by rw [e1]; rfl
      simpa using h0
    simpa using this
  · obtain ⟨xs, m, _, ex, _, hl, hel⟩ := DataW.trod_array Tryd.underlying114 hd
    have hE := hel i (by omega)
    rw [c2, List.getElem?_eq_getElem (by omega)] at hE
    obtain ⟨y0, y1, n, e, hlen, t0, t1⟩ := trod_struct2 Tryd.underlying113 hE
    simp only [c5, List.drop_zero] at t0 t1
    obtain ⟨z0, a0, b0, _⟩ := DataW.trod_int Tryd.underlying5 t0
    obtain ⟨z1, a1, b1, _⟩ := DataW.trod_int Tryd.underlying5 t1
    have e3 := (DataW.agg.inj (Prod.mk.inj ex).1).symm
    have e4 : (xs.map (·.1))[i]? = some (DataW.agg [.lit (.int .u8 z0), .lit (.int .u8 z1)]) := by
      rw [List.getElem?_map, List.getElem?_eq_getElem (by omega : i < xs.length), e, b0, b1]; rfl
    rw [e3] at e4
    have hz : z0 = (([128, 160, 128, 144, 128].getD i 0 : Nat) : Int) ∧ z1 = (([191, 191, 159, 191, 143].getD i 0 : Nat) : Int) := by
      match i, hi with
      | 0, _ | 1, _ | 2, _ | 3, _ | 4, _ =>
        simp at e4
        exact ⟨e4.1.symm, e4.2.symm⟩
    have x0 : cs.toList[2 * i]? = some (.int .u8 z0) := by
      have h0 : ((((cs.toList.drop (i * 2)).take 2)).take 1)[0]? = some (.int .u8 z0) := by rw [a0]; rfl
      rw [List.getElem?_take_of_lt (by omega), List.getElem?_take_of_lt (by omega), List.getElem?_drop] at h0
      rw [Nat.mul_comm]; exact h0
    have x1 : cs.toList[2 * i + 1]? = some (.int .u8 z1) := by
      have h0 : ((((cs.toList.drop (i * 2)).take 2).drop 1).take 1)[0]? = some (.int .u8 z1) := by rw [a1]; rfl
      rw [List.getElem?_take_of_lt (by omega), List.getElem?_drop, List.getElem?_take_of_lt (by omega), List.getElem?_drop] at h0
      rw [Nat.mul_comm]; exact h0
    rw [World.var?_cell hg hv, World.var?_cell hg hv, ← hz.1, ← hz.2]
    exact ⟨by simpa using x0, by simpa using x1⟩

/-- What the walks ask of a world. -/
def LawOk (w : World) : Prop := EtOk w ∧ U8Ok w
theorem LawOk.keepNo {w w' : World} (h : LawOk w) (k : Keep No w w') : LawOk w' := ⟨h.1.keepNo k, h.2.keepNo k⟩
theorem handle_of_laid {W : World} (h : laidMetH Tryd.prog laidL W) : LawOk W := ⟨handle_of_laid1 h, tables_of_laid h⟩

/-- A world that meets the condition: the settled one, the variables' cells laid. -/
noncomputable def laidWorld0 (os : Os) : World :=
  let w0 := World.holding Tryd.prog os ⟨#[], #[], []⟩
  { w0 with heap := w0.heap.modify 0 fun
      | .cells _ t frozen => .cells #[.iface 93 (.agg #[.pointer (some ⟨3, 40, none⟩)])] t frozen
      | o => o }
noncomputable def laidWorld (os : Os) : World := (laidWorld0 os).layVars Tryd.prog laidP
theorem laidWorld_os (os : Os) : (laidWorld os).os = os := World.layVars_os _ _ _
set_option maxRecDepth 100000 in
theorem laidWorld_plain (os : Os) (args : Array Value) : laidMet Tryd.prog laidP ((laidWorld os).forCall (fun _ _ => 0) ⟨#[], args, []⟩).memory := by
  have h : laidMet Tryd.prog laidP (laidWorld os) := laidMet_layVars (w0 := laidWorld0 os) (laidP.map (·.1)) [] rfl (by kernel_rfl) (by kernel_rfl) LaidIn.none
  refine h.of_heap ?_
  simp [World.forCall, World.memory, Input.heap]
theorem laidWorld_met (os : Os) (args : Array Value) : laidMetH Tryd.prog laidL ((laidWorld os).forCall (fun _ _ => 0) ⟨#[], args, []⟩).memory :=
  laidMetH_of_parts (laidWorld_plain os args) (by kernel_rfl)
end Go.Proofs.YtoeijgbjgbgelaaDoor
