/-
  The document's inflate: a byte is put out; a table's next symbol, asked by the reader.
-/
import Derived.Test.YtgmopcbfgcagaaaDoorK1
namespace Go.Proofs.YtgmopcbfgcagaaaDoor
open Go V

set_option maxHeartbeats 1000000 in
theorem rput_ok (w : World) {base x bb : Nat} {Ab : Option Addr} {cb : Nat} {A : Option Addr} {c : Nat} {s : IS} {e : Nat} (h : RefV w base x bb Ab cb A c s e) (hb : base ≤ w.heap.size) (hf : s.from_ ≤ s.all.length) (hal : s.all.length ≤ 10000000) (hm : s.most ≤ 10000000) (b : UInt8) :
    VC Tryd.prog 61 [.pointer (some ⟨x, 0, none⟩), vb b] w
      (fun v w' => (v = .tuple #[] ∧ if s.most ≤ s.all.length - s.from_ then Blk w' x TRr [.pointer (some ⟨bb, 0, none⟩), .slice A s.all.length c, .int .i64 s.from_, .int .i64 s.most, .int .i64 (if e = 0 then 3 else e : Nat)] ∧ Keep (fun k => k = x) w w'
        else ∃ A' c', Blk w' x TRr [.pointer (some ⟨bb, 0, none⟩), .slice A' (s.all.length + 1) c', .int .i64 s.from_, .int .i64 s.most, .int .i64 e] ∧ Own w' base T8 1 A' (s.all.length + 1) c' ((s.all ++ [b]).map vb) ∧ (∀ a, A' = some a → ownS A a.block ∨ w.heap.size ≤ a.block) ∧ Keep (fun k => k = x ∨ ownS A k) w w')) := by
  refine VC.of tt_ok Tryd.func61 rfl (by decide +kernel) (Nat.le_of_ble_eq_true rfl) ?_; (conv => whnf)
  refine VDraw.by_ tt_ok rfl (.take 0 (.take 1 (.take 2 (.take 3 (.take 4 (.take 5 (.take 6 (.take 7 (.take 8 (.take 9 (.take 10 (.take 11 (.take 12 (.take 13 (.take 14 .done))))))))))))))) (by decide +kernel) _ (fun x h1 h2 h3 h4 => Keep.ofHeap h1 h2 h3 h4) (fun wd hd kd => ?_)
  (conv => whnf)
  refine VLoad.keep (h.1.cell 1) ?_
  (conv => whnf)
  refine VLoad.keep (h.1.cell 2) ?_
  (conv => whnf)
  refine VRes.i64 (by omega) ?_; (conv => whnf)
  refine VLoad.keep (h.1.cell 3) ?_
  (conv => whnf)
  have hx := h.1.keepNo kd
  have hrf : RefV wd base x bb Ab cb A c s e := ⟨hx, h.2.1.keepNo kd, h.2.2.1.keepNo kd, h.2.2.2⟩
  refine VCmp.mk (fun g => ?_) (fun g => ?_) <;> (conv => whnf)
  · refine (rfail_ok wd hrf 3).mono ?_
    rintro v w1 ⟨⟨rfl, hb1⟩, k1⟩
    (conv => whnf)
    refine ⟨rfl, ?_⟩
    rw [if_pos (by omega)]
    exact ⟨hb1, (kd.mono fun _ _ h => h.elim).trans k1⟩
  refine VLoad.by_ (hx.cell 1) ?_
  (conv => whnf)
  refine VFill.by_ rfl ?_
  (conv => whnf)
  refine ⟨fun w2 hb2 k2 => ?_⟩
  have hx2 := hx.keepNo k2
  have ho2 := (h.2.2.1.keepNo kd).keepNo k2
  have hs2 : Sl w2 1 (some ⟨wd.heap.size, 0, none⟩) 1 (([b] : List UInt8).map vb) := Sl.ofBlk (n := 1) (size := 1) hb2 rfl
  (conv => whnf)
  have hsz := (kd.trans k2).size
  refine VApp.own tt_ok (it := ty22) (ei := ty5) rfl rfl rfl (size := 1) rfl rfl (by omega) ho2 hs2 (one8 [b]) (by show (s.all.length + 1) * 1 ≤ _; omega) (by omega) (by omega) ?_
  intro A3 c3 w3 ho3 k3 hat
  rw [← List.map_append] at ho3
  have hx3 := hx2.keep k3 (fun ⟨a, ha, e⟩ => (ho2.ty ha).ne hx2.ty (by decide) e)
  (conv => whnf)
  refine VStore.one hx3 (by simp) ?_
  intro w4 hb4 k4 _
  (conv => whnf)
  refine ⟨rfl, ?_⟩
  rw [if_neg (by omega)]
  have kp : Keep (fun k => k = x ∨ ownS A k) w w4 := (((kd.trans k2).mono fun _ _ h => h.elim).trans (k3.mono fun _ _ h => .inr h)).trans (k4.mono fun _ _ h => .inl h)
  exact ⟨A3, c3, hb4, ho3.keep k4 (fun a ha e => (ho3.ty ha).ne hx3.ty (by decide) e), fun a ha => (hat a ha).imp (fun ⟨a0, h0, e⟩ => ⟨a0, h0, e.symm⟩) (fun e => by omega), kp⟩
end Go.Proofs.YtgmopcbfgcagaaaDoor
