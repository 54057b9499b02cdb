/-
  Law 18: rows of what comes (a number, a most, bytes) come in.
-/
import Derived.Test.YtgmopcbfgcagaaaDoorK16
import Derived.Test.YtgmopcbfgcagaaaDoorLi
import Derived.Test.YtgmopcbfgcagaaaDoorVl
import Derived.Deep.SlicePairs
namespace Go.Proofs.YtgmopcbfgcagaaaDoor
open Go V Go.ChangeShapes Go.WideShapes Go.ChangeAt Go.RowKit

abbrev TDe : TypeId := 40
abbrev TSD : TypeId := 38
structure Ded where
  act : Int
  most : Int
  b : List UInt8
/-- Slice A of n is the row ds. -/
def DedV (w : World) (A : Option Addr) (n : Nat) (ds : List Ded) : Prop :=
  ds.length = n ∧ ∀ i d, ds[i]? = some d → ∃ b o, A = some ⟨b, o, none⟩ ∧ w.cell? ⟨b, o + i * 3, none⟩ = some (.int .i64 d.act) ∧ w.cell? ⟨b, o + i * 3 + 1, none⟩ = some (.int .i64 d.most) ∧
    ∃ A2 c2, w.cell? ⟨b, o + i * 3 + 2, none⟩ = some (.slice A2 d.b.length c2) ∧ Sl w 1 A2 d.b.length (d.b.map vb)
theorem DedV.keepNo {w w' : World} {A : Option Addr} {n : Nat} {ds : List Ded} (h : DedV w A n ds) (k : Keep No w w') : DedV w' A n ds := by
  refine ⟨h.1, fun i d hd => ?_⟩
  obtain ⟨b, o, h1, h2, h3, A2, c2, h4, h5⟩ := h.2 i d hd
  exact ⟨b, o, h1, k.cell h2 id, k.cell h3 id, A2, c2, k.cell h4 id, h5.keepNo k⟩

section
variable {H : Type} {enc : TypeId × Value → H} {P : Program} {w : World} {base : Nat} {spare : Nat → Bool} {held : Bool}
theorem trod_struct3 {t : TypeId} {f0 f1 f2 : Field} {fuel : Nat} {cs : List Value} {x : DataW H × List MemPlace} (ht : P.underlying t = some (.struct #[f0, f1, f2])) (h : DataW.trod enc P w base spare held fuel t cs = some x) :
    ∃ y0 y1 y2 n, cs.length = P.cellsOf t ∧ DataW.trod enc P w base spare held n f0.type ((cs.drop f0.offset).take (P.cellsOf f0.type)) = some y0 ∧ DataW.trod enc P w base spare held n f1.type ((cs.drop f1.offset).take (P.cellsOf f1.type)) = some y1 ∧
      DataW.trod enc P w base spare held n f2.type ((cs.drop f2.offset).take (P.cellsOf f2.type)) = some y2 := by
  obtain ⟨xs, n, _, _, hl, hlen, hf⟩ := DataW.trod_struct ht h
  match xs, hlen with
  | [y0, y1, y2], _ => exact ⟨y0, y1, y2, n, hl, by simpa using hf 0 f0 rfl, by simpa using hf 1 f1 rfl, by simpa using hf 2 f2 rfl⟩
end
theorem list3 {α : Type} : ∀ (l : List α), l.length = 3 → ∃ a b c, l = [a, b, c]
  | [a, b, c], _ => ⟨a, b, c, rfl⟩

section
variable {H : Type} {enc : TypeId × Value → H} {w : World} {spare : Nat → Bool} {held : Bool}
theorem open_deeds {fuel : Nat} {V : Value} {x : DataW H × List MemPlace} (h : DataW.trod enc Tryd.prog w 0 spare held fuel TSD [V] = some x) :
    ∃ (A : Option Addr) (n c : Nat) (ds : List Ded), V = .slice A n c ∧ DedV w A n ds ∧ n ≤ c ∧ c ≤ 9223372036854775807 := by
  rcases Go.Deep.open_slice Tryd.underlying38 h with ⟨hcs, _⟩ | ⟨a, n, c, m, fu, D, Pl, hcs, _, hl, hm, hmm, _, hx⟩
  · obtain rfl : V = .slice none 0 0 := by simpa using hcs
    exact ⟨none, 0, 0, [], rfl, ⟨rfl, fun i d h => by simp at h⟩, Nat.le_refl _, by omega⟩
  · obtain rfl : V = .slice (some a) n c := by simpa using hcs
    have hnm : n ≤ m := by rw [hmm]; split <;> omega
    have ce : Tryd.prog.cellsOf TDe = 3 := by kernel_rfl
    have ci : Tryd.prog.cellsOf 3 = 1 := by kernel_rfl
    have cs : Tryd.prog.cellsOf TS8 = 1 := by kernel_rfl
    have each : ∀ i, i < n → ∃ g : Ded, ∃ A2 c2, w.cell? (a.add (i * 3)) = some (.int .i64 g.act) ∧ w.cell? ((a.add (i * 3)).add 1) = some (.int .i64 g.most) ∧ w.cell? ((a.add (i * 3)).add 2) = some (.slice A2 g.b.length c2) ∧ Sl w 1 A2 g.b.length (g.b.map vb) := by
      intro i hi
      obtain ⟨cs', h1, h2⟩ := hx i (by omega)
      rw [ce] at h1
      obtain ⟨_, hlen, hcell⟩ := World.cells?_some h1
      obtain ⟨y0, y1, y2, fu', _, g0, g1, g2⟩ := trod_struct3 Tryd.underlying40 h2
      obtain ⟨v0, v1, v2, rfl⟩ := list3 cs' hlen
      simp only [ci, cs, List.drop_zero, List.drop_succ_cons, List.take_succ_cons, List.take_zero] at g0 g1 g2
      obtain ⟨z0, e0, _, w0⟩ := DataW.trod_int Tryd.underlying3 g0
      obtain ⟨z1, e1, _, w1⟩ := DataW.trod_int Tryd.underlying3 g1
      obtain ⟨A2, n2, c2, l2, hv, s1, s2, _⟩ := open_bytes Tryd.underlying22 Tryd.underlying5 (by kernel_rfl) g2
      cases e0; cases e1
      subst hv
      subst s2
      exact ⟨⟨z0, z1, l2⟩, A2, c2, by have := hcell 0 (by omega); rw [Go.Deep.add_add, Nat.add_zero] at this; exact this, hcell 1 (by omega), hcell 2 (by omega), s1⟩
    have : Inhabited Ded := ⟨⟨0, 0, []⟩⟩
    obtain ⟨G, hG⟩ := Go.Deep.choose_lt each
    rcases Nat.eq_zero_or_pos n with h0 | h0
    · subst h0
      exact ⟨some a, 0, c, [], rfl, ⟨rfl, fun i d h => by simp at h⟩, hl, by unfold maxLen at hm; omega⟩
    obtain ⟨_, _, hz, _⟩ := hG 0 (by omega)
    have hs : a.spot = none := addr_none hz (.inl rfl)
    obtain ⟨b, o, sp⟩ := a
    simp only at hs
    subst hs
    simp only [addr_add] at hG
    refine ⟨_, _, _, (List.range n).map G, rfl, ⟨by simp, fun i g hg => ?_⟩, hl, by unfold maxLen at hm; omega⟩
    have hin : i < n := by
      rcases Nat.lt_or_ge i n with h | h
      · exact h
      · rw [List.getElem?_eq_none (by simpa using h)] at hg; cases hg
    rw [List.getElem?_map, List.getElem?_range hin] at hg
    simp only [Option.map_some, Option.some.injEq] at hg
    subst hg
    obtain ⟨A2, c2, q1, q2, q3, q4⟩ := hG i hin
    exact ⟨b, o, rfl, q1, q2, A2, c2, q3, q4⟩
end

theorem ireset_ok {N : Nat → Prop} (w : World) {y : Nat} {hist : List UInt8} (h : InrN N w y hist) : VC Tryd.prog 17 [.pointer (some ⟨y, 0, none⟩)] w (fun v w' => (v = .tuple #[] ∧ InrN N w' y []) ∧ Keep (fun k => k = y) w w') := by
  obtain ⟨H, c, g1, g2, g3, g4⟩ := h
  refine VC.of tt_ok Tryd.func17 rfl (by decide +kernel) (Nat.le_of_ble_eq_true rfl) ?_; (conv => whnf)
  refine VStore.one g1 (by simp) ?_
  intro w1 hb k1 _
  (conv => whnf)
  exact ⟨⟨rfl, none, 0, hb, Sl.nil, Nat.le_refl _, fun a ha => by cases ha⟩, k1⟩
theorem InrN.other {N : Nat → Prop} {w w' : World} {x y : Nat} {t : TypeId} {cs : List Value} {h2 : List UInt8} (h : InrN N w y h2) (hx : Blk w x t cs) (ht : TIn ≠ t) (ht8 : T8 ≠ t) (k : Keep (fun k => k = x) w w') : InrN N w' y h2 := by
  have hy : y ≠ x := by
    obtain ⟨_, _, g1, _⟩ := h
    exact g1.ne hx ht
  exact h.keep k hy (fun i hi e => hi.ne hx.ty ht8 e)
theorem drop_drop_ (a b : List UInt8) (K : Nat) : (a.drop (a.length - K) ++ b).drop ((a.drop (a.length - K) ++ b).length - K) = (a ++ b).drop ((a ++ b).length - K) := by
  rw [List.length_append, List.length_append, List.length_drop]
  rcases Nat.lt_or_ge a.length K with h | h
  · rw [show a.length - K = 0 from by omega, List.drop_zero, Nat.sub_zero]
  · refine List.ext_getElem? fun i => ?_
    rw [List.getElem?_drop, List.getElem?_drop]
    have hd : (a.drop (a.length - K)).length = K := by rw [List.length_drop]; omega
    rcases Nat.lt_or_ge (a.length - (a.length - K) + b.length - K + i) K with g | g
    · rw [List.getElem?_append_left (by omega), List.getElem?_drop, List.getElem?_append_left (by omega)]
      congr 1; omega
    · rw [List.getElem?_append_right (by omega), List.getElem?_append_right (by omega)]
      congr 1; omega
theorem win_win (a b : List UInt8) : win (win a ++ b) = win (a ++ b) := drop_drop_ a b 32768
end Go.Proofs.YtgmopcbfgcagaaaDoor
