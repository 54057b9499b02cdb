/-
  Package md4: Sum.
-/
import Derived.Test.YtoeijgbjgbgelaaDoorM2
import Derived.Test.YtoeijgbjgbgelaaDoorSt0
namespace Go.Proofs.YtoeijgbjgbgelaaDoor.Md
open Go V

theorem mdOut_split (s : M4) : mdOut s = (List.range 16).map (mdByte s) := rfl
theorem get_cell (s : M4) (i : Nat) (h : i < 4) : s.cells[i]? = some (vw (s.get i)) := by
  match i, h with
  | 0, _ => rfl
  | 1, _ => rfl
  | 2, _ => rfl
  | 3, _ => rfl

theorem sum_ok (w : World) {A : Option Addr} {n c : Nat} {l : List UInt8} (hs : Sl w 1 A n (l.map vb)) (hn : n ≤ 1000000000) :
    VC Tryd.prog 19 [.slice A n c] w (fun v w' => ∃ A' c', v = .slice A' 16 c' ∧ Own w' w.heap.size T8 1 A' 16 c' ((md4 l).map vb) ∧ Keep No w w') := by
  have hl : l.length = n := by simpa using hs.len
  refine VC.of tt_ok Tryd.func19 rfl (by decide +kernel) (Nat.le_of_ble_eq_true rfl) ?_; (conv => whnf)
  refine VFill.by_ rfl ?_
  (conv => whnf)
  refine ⟨fun w1 hb1 hk1 => ?_⟩
  (conv => whnf)
  refine (padded_ok w1 (hs.keepNo hk1) hn).mono ?_
  rintro v w2 ⟨A2, c2, rfl, ho2, hk2⟩
  (conv => whnf)
  have hsp := Sl.ofOwn ho2
  have hbb : ∀ a, A2 = some a → w1.heap.size ≤ a.block := fun a ha => (ho2.base_ ha).1
  have hlt1 := Blk.lt hb1
  have hs1 := hk1.size
  have hcap : (mdPad l).length ≤ c2 := by
    rcases ho2.2 with ⟨h0, h1⟩ | ⟨g, cap, cur, hv, hg, hh, h1, _⟩
    · injection h0 with _ h2 h3; omega
    · injection hv with _ _ h3; omega
  have hP := mdPad_mod l
  have hPl : (mdPad l).length ≤ 1000000100 := by rw [mdPad_length, hl]; have := padZ_lt n; omega
  generalize hPd : mdPad l = P at *
  refine VLoop.by_ tt_ok (S := Nat) (fun j => [(3, .pointer (some ⟨w.heap.size, 0, none⟩)), (4, .slice A2 P.length c2), (5, .int .i64 (64 * j : Nat))])
    (fun j w' => 64 * j ≤ P.length ∧ Blk w' w.heap.size TM (mdBlocks P mdInit j).cells ∧ Sl w' 1 A2 P.length (P.map vb) ∧ Keep No w w') (fun j => P.length - 64 * j)
    0 ⟨rfl, rfl, rfl, trivial⟩ ⟨Nat.zero_le _, Blk.keep hb1 hk2 id, hsp, hk1.trans hk2⟩ ?_
  rintro j w3 ⟨hj, hb3, hs3, hk3⟩
  (conv => whnf)
  refine VCmp.mk (fun h => ?_) (fun h => ?_) <;> (conv => whnf)
  · refine VRes.i64 (by omega) ?_
    (conv => whnf)
    refine VCut.by_ (64 * j) (64 * j + 64) rfl (by omega) (by omega) (by omega) ?_
    intro A4 hA4
    have e64 : 64 * j + 64 - 64 * j = 64 := by omega
    have hsc := Sl.cut hs3 (l := 64 * j) (h := 64 * j + 64) (by omega) (by omega) hcap hA4
    rw [e64] at *
    (conv => whnf)
    have hsc' : Sl w3 1 A4 64 (((P.drop (64 * j)).take 64).map vb) := by
      have e : ((P.map vb).take ((64 * j + 64) * 1)).drop (64 * j * 1) = ((P.drop (64 * j)).take 64).map vb := by
        rw [Nat.mul_one, Nat.mul_one, List.drop_take, List.map_take, List.map_drop, show 64 * j + 64 - 64 * j = 64 from by omega]
      rw [← e]
      exact hsc
    refine (mix_ok w3 _ hb3 hsc' (by rw [List.length_take, List.length_drop]; omega)).mono ?_
    rintro v w4 ⟨rfl, hb4, hk4⟩
    (conv => whnf)
    refine VRes.i64 (by omega) ?_
    (conv => whnf)
    refine ⟨j + 1, ⟨rfl, rfl, congrArg some (congrArg (Value.int .i64) (by omega)), trivial⟩, ⟨by omega, ?_, hs3.keep hk4 (fun a ha => by have := hbb a ha; omega), hk3.toNo hk4 (fun i hi => by omega)⟩, by omega⟩
    have e : mdBlocks P mdInit (j + 1) = mdMix (mdBlocks P mdInit j) ((P.drop (64 * j)).take 64) := by
      unfold mdBlocks
      rw [range_succ_foldl]
    rw [e]
    exact hb4
  · have hjl : 64 * j = P.length := by omega
    have hjd : P.length / 64 = j := by omega
    have hres : md4 l = mdOut (mdBlocks P mdInit j) := by unfold md4; rw [hPd, hjd]
    rw [hres]
    generalize mdBlocks P mdInit j = s at *
    refine VLoop.by_ tt_ok (S := Nat × Option Addr × Nat) (fun | (i, A', c') => [(6, .slice A' (4 * i) c'), (27, .pointer (some ⟨w.heap.size, 0, none⟩)), (28, .int .i64 i)])
      (fun | (i, A', c') => fun w' => i ≤ 4 ∧ Blk w' w.heap.size TM s.cells ∧ Own w' w.heap.size T8 1 A' (4 * i) c' (((List.range (4 * i)).map (mdByte s)).map vb) ∧ Keep No w w') (fun | (i, _) => 4 - i)
      (0, none, 0) ⟨rfl, rfl, rfl, trivial⟩ ⟨Nat.zero_le _, hb3, Own.nil _ _ _ _, hk3⟩ ?_
    rintro ⟨i, A5, c5⟩ w5 ⟨hi, hb5, ho5, hk5⟩
    (conv => whnf)
    refine VCmp.mk (fun h => ?_) (fun h => ?_) <;> (conv => whnf)
    · refine VIdxA.one i rfl (by omega) rfl ?_
      (conv => whnf)
      refine VLoad.by_ (v := vw (s.get i)) (by rw [hb5.cell, Nat.zero_add]; exact get_cell s i (by omega)) ?_
      (conv => whnf)
      refine VLoop.by_ tt_ok (S := Nat × Option Addr × Nat) (fun | (j, A', c') => [(6, .slice A' (4 * i + j) c'), (27, .pointer (some ⟨w.heap.size, 0, none⟩)), (28, .int .i64 i), (8, vw (s.get i)), (33, .int .i64 j)])
        (fun | (j, A', c') => fun w' => j ≤ 4 ∧ Blk w' w.heap.size TM s.cells ∧ Own w' w.heap.size T8 1 A' (4 * i + j) c' (((List.range (4 * i + j)).map (mdByte s)).map vb) ∧ Keep No w w') (fun | (j, _) => 4 - j)
        (0, A5, c5) ⟨rfl, rfl, rfl, rfl, rfl, trivial⟩ ⟨Nat.zero_le _, hb5, ho5, hk5⟩ ?_
      rintro ⟨j, A6, c6⟩ w6 ⟨hj6, hb6, ho6, hk6⟩
      (conv => whnf)
      refine VCmp.mk (fun h => ?_) (fun h => ?_) <;> (conv => whnf)
      · refine VRes.i64 (by omega) ?_
        (conv => whnf)
        refine VReq.mk (by omega) ?_
        (conv => whnf)
        refine VRes.shrN (N := (s.get i).toNat) (s := 8 * j) rfl (by omega) (by show 8 * j ≤ 32; omega) ?_
        (conv => whnf)
        refine VRes.byte rfl ?_
        (conv => whnf)
        refine VFill.by_ rfl ?_
        (conv => whnf)
        refine ⟨fun w7 hb7 hk7 => ?_⟩
        (conv => whnf)
        refine app8one (w0 := w) (x := UInt8.ofNat ((s.get i).toNat / 2 ^ (8 * j))) (hk6.trans hk7) (ho6.keepNo hk7) hb7 rfl (by omega) ?_
        intro A8 c8 w8 ho8 hk8 hkA _
        (conv => whnf)
        refine VRes.i64 (by omega) ?_
        (conv => whnf)
        refine ⟨(j + 1, A8, c8), ⟨rfl, rfl, rfl, rfl, rfl, trivial⟩, ⟨by omega, ?_, ?_, hk8⟩, by dsimp only; omega⟩
        · refine Blk.keep (Blk.keep hb6 hk7 id) hkA ?_
          rintro ⟨a, ha, hab⟩
          exact (ho6.keepNo hk7).type_ne ha (Blk.keep hb6 hk7 id) (by decide) hab
        · have e1 : (4 * i + j) / 4 = i := by omega
          have e2 : (4 * i + j) % 4 = j := by omega
          have e : (List.range (4 * i + (j + 1))).map (mdByte s) = (List.range (4 * i + j)).map (mdByte s) ++ [UInt8.ofNat ((s.get i).toNat / 2 ^ (8 * j))] := by
            rw [← Nat.add_assoc, List.range_succ, List.map_append]
            congr 1
            show [mdByte s (4 * i + j)] = _
            unfold mdByte
            rw [e1, e2, Nat.mul_comm]
          rw [e]
          exact ho8
      · have hj4 : j = 4 := by omega
        subst hj4
        refine VRes.i64 (by omega) ?_
        (conv => whnf)
        exact ⟨(i + 1, A6, c6), ⟨rfl, rfl, rfl, trivial⟩, ⟨by omega, hb6, ho6, hk6⟩, by dsimp only; omega⟩
    · have hi4 : i = 4 := by omega
      subst hi4
      exact ⟨A5, c5, rfl, ho5, hk5⟩
end Go.Proofs.YtoeijgbjgbgelaaDoor.Md
