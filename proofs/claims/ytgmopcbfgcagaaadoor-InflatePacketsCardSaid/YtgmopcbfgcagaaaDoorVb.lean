/-
  The obligations that come again and again, at this program's own types: bytes.
-/
import Derived.Test.YtgmopcbfgcagaaaDoorVk
import Derived.Test.YtgmopcbfgcagaaaDoorT
namespace Go.Proofs.YtgmopcbfgcagaaaDoor
open Go V

abbrev T8 : TypeId := 5
abbrev TS8 : TypeId := 22

/-- append of bytes onto bytes of the call's own. -/
theorem app8 {w0 w : World} {ty : TypeId} {K : Value → World → Prop} {A : Option Addr} {n c : Nat} {xs : List UInt8} {B : Option Addr} {m d : Nat} {ys : List UInt8}
    (h0 : Keep No w0 w) (hown : Own w w0.heap.size T8 1 A n c (xs.map vb)) (hsrc : Sl w 1 B m (ys.map vb)) (hlen : n + m ≤ 140737488355328)
    (hK : ∀ A' c' w', Own w' w0.heap.size T8 1 A' (n + m) c' ((xs ++ ys).map vb) → Keep No w0 w' → Keep (ownS A) w w' → (∀ a, A' = some a → (∃ a0, A = some a0 ∧ a.block = a0.block) ∨ a.block = w.heap.size) → K (.slice A' (n + m) c') w') :
    VApp Tryd.prog w #[TS8, TS8] ty (.slice A n c) (.slice B m d) K :=
  VApp.own tt_ok (it := ty22) (ei := ty5) rfl rfl rfl (size := 1) rfl rfl (by omega) hown hsrc (one8 _) (by show (n + m) * 1 ≤ _; omega) hlen h0.size
    fun A' c' w' h1 h2 h3 => hK A' c' w' (by rw [List.map_append]; exact h1) (h0.own hown h2) h2 h3

/-- append of one byte. -/
theorem app8one {w0 w : World} {ty : TypeId} {K : Value → World → Prop} {A : Option Addr} {n c : Nat} {xs : List UInt8} {b : Nat} {x : UInt8} {cs : List Value}
    (h0 : Keep No w0 w) (hown : Own w w0.heap.size T8 1 A n c (xs.map vb)) (hb : Blk w b T8 cs) (hcs : cs = [vb x]) (hlen : n ≤ 140737488355327)
    (hK : ∀ A' c' w', Own w' w0.heap.size T8 1 A' (n + 1) c' ((xs ++ [x]).map vb) → Keep No w0 w' → Keep (ownS A) w w' → (∀ a, A' = some a → (∃ a0, A = some a0 ∧ a.block = a0.block) ∨ a.block = w.heap.size) → K (.slice A' (n + 1) c') w') :
    VApp Tryd.prog w #[TS8, TS8] ty (.slice A n c) (.slice (some ⟨b, 0, none⟩) 1 1) K :=
  app8 (ys := [x]) h0 hown (Sl.ofBlk (n := 1) (size := 1) (xs := [vb x]) (by rw [← hcs]; exact hb) rfl) (by omega) hK

end Go.Proofs.YtgmopcbfgcagaaaDoor
