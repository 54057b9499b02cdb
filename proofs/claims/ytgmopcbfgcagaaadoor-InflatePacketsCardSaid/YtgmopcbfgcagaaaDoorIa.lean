/-
  errors.As, as the walks use it; inflate: fault, number.
-/
import Derived.Test.YtgmopcbfgcagaaaDoorF0
import Derived.Test.YtgmopcbfgcagaaaDoorSt0
namespace Go.Proofs.YtgmopcbfgcagaaaDoor
open Go V
/-- The package variable errors.errorType holds what its text lays. -/
def EtOk (w : World) : Prop := w.cell? ⟨0, 0, none⟩ = some (.iface 138 (.agg #[.pointer (some ⟨1, 50, none⟩)]))
theorem EtOk.keepNo {w w' : World} (h : EtOk w) (k : Keep No w w') : EtOk w' := k.cell h id
theorem keep_alloc (w : World) (o : Obj) : Keep No w (w.alloc o) := Keep.ofBelow ((Go.RowKit.Below.refl w.heap.size w).alloc (Nat.le_refl _) o)
theorem as_ok (w : World) (e : Addr) (t : Nat) (old : Value) (hg : EtOk w) (hb : Blk w t 81 [old]) :
    VC Tryd.prog 36 [.iface 81 (.pointer (some e)), .iface 83 (.pointer (some ⟨t, 0, none⟩))] w (fun v w' => v = .bool true ∧ Blk w' t 81 [.pointer (some e)] ∧ Keep (fun k => k = t) w w') := by
  refine ⟨⟨_, Tryd.func36, by kernel_rfl, by kernel_rfl⟩, (as_hit e ⟨t, 0, none⟩ old w hg (hb.cell 0) (frozen_blk hb 0)).mono fun ev w' ⟨h1, h2⟩ => ?_⟩
  subst h1
  subst h2
  have k4 := (((keep_alloc w (.cells #[.pointer (some ⟨t, 0, none⟩)] 83)).trans (keep_alloc _ (.cells #[.pointer (some ⟨1, 83, none⟩), .pointer (some ⟨w.heap.size, 0, none⟩), .int .u64 150] 119))).trans (keep_alloc _ (.cells #[.pointer (some ⟨1, 83, none⟩), .pointer (some ⟨w.heap.size, 0, none⟩), .int .u64 150] 119))).trans (keep_alloc _ (.cells #[.pointer (some e)] 81))
  exact ⟨rfl, heap_setCell_self (hb.keepNo k4) 0 _, (k4.mono fun _ _ h => h.elim).trans (keep_setCell _ _ _ _)⟩

theorem asNil_ok (w : World) (t : Value) : VC Tryd.prog 36 [.nilIface, t] w (fun v w' => v = .bool false ∧ w = w') :=
  ⟨⟨_, Tryd.func36, by kernel_rfl, by kernel_rfl⟩, (as_nil t w).mono fun e w' ⟨h1, h2⟩ => by subst h1; exact ⟨rfl, h2.symm⟩⟩

abbrev TFltP : TypeId := 81
/-- An error as a value: none, or a fault around a number. -/
def ErrV (w : World) (base : Nat) (E : Value) (n : Int) : Prop := (E = .nilIface ∧ n = 0) ∨ ∃ b, E = .iface TFltP (.pointer (some ⟨b, 0, none⟩)) ∧ w.cell? ⟨b, 1, none⟩ = some (.int .i64 n) ∧ n ≠ 0 ∧ base ≤ b
theorem ErrV.keepNo {w w' : World} {base : Nat} {E : Value} {n : Int} (h : ErrV w base E n) (k : Keep No w w') : ErrV w' base E n := by
  rcases h with h | ⟨b, h1, h2, h3⟩
  · exact .inl h
  · exact .inr ⟨b, h1, k.cell h2 id, h3⟩

theorem fault_ok (w : World) (k : Int) (hk : k ≠ 0) : VC Tryd.prog 35 [.int .i64 k] w (fun v w' => ErrV w' w.heap.size v k ∧ v ≠ .nilIface ∧ Keep No w w') := by
  refine VC.of tt_ok Tryd.func35 rfl (by decide +kernel) (Nat.le_of_ble_eq_true rfl) ?_; (conv => whnf)
  refine VCmp.mk (fun h => absurd h hk) (fun _ => ?_); (conv => whnf)
  refine VFill.by_ rfl ?_; (conv => whnf)
  refine ⟨fun w1 hb1 hk1 => ?_⟩; have hb1_lt := Blk.lt hb1; have hk1_sz := hk1.size; (conv => whnf)
  exact ⟨.inr ⟨_, rfl, by rw [hb1.cell]; rfl, hk, Nat.le_refl _⟩, by simp [vtup], hk1⟩

theorem number_ok (w : World) {base : Nat} {E : Value} {n : Int} (hE : ErrV w base E n) (hg : EtOk w) : VC Tryd.prog 20 [E] w (fun v w' => v = .int .i64 n ∧ Keep No w w') := by
  rcases hE with ⟨rfl, rfl⟩ | ⟨b, rfl, h1, _⟩
  · refine VC.of tt_ok Tryd.func20 rfl (by decide +kernel) (Nat.le_of_ble_eq_true rfl) ?_; (conv => whnf)
    refine ⟨fun w1 hb1 hk1 => ?_⟩; have hb1_lt := Blk.lt hb1; have hk1_sz := hk1.size; (conv => whnf)
    refine (asNil_ok w1 _).mono ?_
    rintro v w2 ⟨rfl, rfl⟩
    (conv => whnf)
    exact ⟨rfl, hk1⟩
  · have hlt := cell_lt' h1
    refine VC.of tt_ok Tryd.func20 rfl (by decide +kernel) (Nat.le_of_ble_eq_true rfl) ?_; (conv => whnf)
    refine ⟨fun w1 hb1 hk1 => ?_⟩; have hb1_lt := Blk.lt hb1; have hk1_sz := hk1.size; (conv => whnf)
    refine (as_ok w1 _ _ _ (hg.keepNo hk1) hb1).mono ?_
    rintro v w2 ⟨rfl, hb2, hk2⟩
    (conv => whnf)
    refine VLoad.by_ ((hb2).cell 0) ?_; (conv => whnf)
    refine VLoad.by_ (hk2.cell (hk1.cell h1 id) (by show ¬ b = _; have : b < w.heap.size := hlt; omega)) ?_
    (conv => whnf)
    exact ⟨rfl, hk1.fresh_ hk2 (Nat.le_refl _)⟩
end Go.Proofs.YtgmopcbfgcagaaaDoor
