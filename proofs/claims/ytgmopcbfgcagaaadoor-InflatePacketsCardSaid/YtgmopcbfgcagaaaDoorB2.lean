/-
  The reference's bits: those of bytes.
-/
import Derived.Test.YtgmopcbfgcagaaaDoorB1
namespace Go.Proofs.YtgmopcbfgcagaaaDoor
open Go V

def bitH : Bool → UInt8 → Nat → UInt8
  | true, c, j => UInt8.ofNat (c.toNat / 2 ^ (7 - j) % 2)
  | false, c, j => UInt8.ofNat (c.toNat / 2 ^ j % 2)
def bitsH (hi : Bool) (c : UInt8) : List UInt8 := (List.range 8).map (bitH hi c)
def openP (hi : Bool) (l : List UInt8) : List UInt8 := l.flatMap (bitsH hi)
theorem bitsH_len (hi : Bool) (c : UInt8) : (bitsH hi c).length = 8 := by simp [bitsH]
theorem openP_cons (hi : Bool) (c : UInt8) (l : List UInt8) : openP hi (c :: l) = bitsH hi c ++ openP hi l := by simp [openP]
theorem openP_append (hi : Bool) (l r : List UInt8) : openP hi (l ++ r) = openP hi l ++ openP hi r := by simp [openP]
theorem openP_len (hi : Bool) (l : List UInt8) : (openP hi l).length = 8 * l.length := by
  induction l with
  | nil => rfl
  | cons c l ih => rw [openP_cons, List.length_append, bitsH_len, ih, List.length_cons]; omega
theorem openP_snoc (hi : Bool) (l : List UInt8) (k : Nat) (x : UInt8) (h : l[k]? = some x) : openP hi (l.take (k + 1)) = openP hi (l.take k) ++ bitsH hi x := by
  rw [List.take_add_one, h]; simp [openP]
theorem bitsH_snoc (hi : Bool) (c : UInt8) (j : Nat) (h : j < 8) : (bitsH hi c).take (j + 1) = (bitsH hi c).take j ++ [bitH hi c j] := by
  have : (bitsH hi c)[j]? = some (bitH hi c j) := by unfold bitsH; rw [List.getElem?_map, List.getElem?_range h]; rfl
  rw [List.take_add_one, this]; rfl
theorem bitH_bit (hi : Bool) (c : UInt8) (j : Nat) : (bitH hi c j).toNat ≤ 1 := by
  cases hi with
  | true => have : (bitH true c j).toNat = c.toNat / 2 ^ (7 - j) % 2 % 256 := by simp [bitH]
            omega
  | false => have : (bitH false c j).toNat = c.toNat / 2 ^ j % 2 % 256 := by simp [bitH]
             omega
theorem openP_bits (hi : Bool) (l : List UInt8) : bitsOnly (openP hi l) := by
  intro x hx
  obtain ⟨c, _, h⟩ := List.mem_flatMap.1 hx
  obtain ⟨j, _, rfl⟩ := List.mem_map.1 h
  exact bitH_bit hi c j
theorem VRes.oddH {N : Nat} {a b : Int} {K : Value → Prop} (ha : a = (N : Int)) (hb : b = 1) (hN : N < 256) (hK : K (vb (UInt8.ofNat (N % 2)))) :
    VRes (.int .u8 (IntKind.wrap .u8 ((BitVec.ofInt (IntKind.bits .u8) a &&& BitVec.ofInt (IntKind.bits .u8) b).toNat))) K := by
  have hN8 : (UInt8.ofNat N).toNat = N := by
    have : (UInt8.ofNat N).toNat = N % 256 := by simp
    omega
  refine VRes.odd8 (x := UInt8.ofNat N) (by rw [ha, hN8]) hb ?_
  rw [hN8]
  have e : (.int .u8 ((N % 2 : Nat) : Int) : Value) = vb (UInt8.ofNat (N % 2)) := by
    unfold vb
    have h1 : (UInt8.ofNat (N % 2)).toNat = N % 2 % 256 := by simp
    have h2 : (UInt8.ofNat (N % 2)).toNat = N % 2 := by omega
    rw [h2]
  rw [e]; exact hK

set_option maxHeartbeats 1000000 in
theorem bitsOpen_ok (w : World) {A : Option Addr} {n c : Nat} {l : List UInt8} (hi : Bool) (hs : Sl w 1 A n (l.map vb)) (hn : n ≤ 100000) :
    VC Tryd.prog 38 [.slice A n c, .bool hi] w
      (fun v w' => (∃ A' c', v = .pointer (some ⟨w.heap.size, 0, none⟩) ∧ Blk w' w.heap.size TBits [.slice A' (8 * n) c', .int .i64 0, .bool hi] ∧ Own w' w.heap.size T8 1 A' (8 * n) c' ((openP hi l).map vb)) ∧ Keep No w w') := by
  have hl : l.length = n := by simpa using hs.len
  refine VC.of tt_ok Tryd.func38 rfl (by decide +kernel) (Nat.le_of_ble_eq_true rfl) ?_; (conv => whnf)
  refine VFill.by_ rfl ?_; (conv => whnf)
  refine ⟨fun w1 hb1 kp => ?_⟩; have hb1_lt := Blk.lt hb1; have kp_sz := kp.size; (conv => whnf)
  refine VLoop.by_ tt_ok (S := Nat × Option Addr × Nat) (fun | (i, Al, cl) => [(0, .slice A n c), (1, .bool hi), (5, .pointer (some ⟨w.heap.size, 0, none⟩)), (6, .int .i64 i)])
    (fun | (i, Al, cl) => fun w' => i ≤ n ∧ Blk w' w.heap.size TBits [.slice Al (8 * i) cl, .int .i64 0, .bool hi] ∧ Own w' w.heap.size T8 1 Al (8 * i) cl ((openP hi (l.take i)).map vb) ∧ Keep No w w') (fun | (i, _, _) => n - i)
    (0, none, 0) ⟨rfl, rfl, rfl, rfl, trivial⟩ ⟨by omega, hb1, Own.nil _ _ _ _, kp⟩ ?_
  rintro ⟨i, Al, cl⟩ w' ⟨hk, hb, hown, kk⟩
  (conv => whnf)
  refine VCmp.mk (fun h => ?_) (fun h => ?_) <;> (conv => whnf)
  rotate_left 1
  · obtain rfl : i = n := by omega
    rw [List.take_of_length_le (by omega)] at hown
    exact ⟨⟨Al, cl, rfl, hb, hown⟩, kk⟩
  obtain ⟨x, hx⟩ : ∃ x, l[i]? = some x := ⟨_, List.getElem?_eq_getElem (by omega)⟩
  have hxd : l.getD i 0 = x := by rw [List.getD_eq_getElem?_getD, hx]; rfl
  refine VLoop.by_ tt_ok (S := Nat × Option Addr × Nat) (fun | (k, Al, cl) => [(0, .slice A n c), (1, .bool hi), (5, .pointer (some ⟨w.heap.size, 0, none⟩)), (6, .int .i64 i), (7, .int .i64 k)])
    (fun | (k, Al, cl) => fun w' => k ≤ 8 ∧ Blk w' w.heap.size TBits [.slice Al (8 * i + k) cl, .int .i64 0, .bool hi] ∧ Own w' w.heap.size T8 1 Al (8 * i + k) cl ((openP hi (l.take i) ++ (bitsH hi x).take k).map vb) ∧ Keep No w w') (fun | (k, _, _) => 8 - k)
    (0, Al, cl) ⟨rfl, rfl, rfl, rfl, rfl, trivial⟩ ⟨by omega, hb, by simpa using hown, kk⟩ ?_
  rintro ⟨k, Al, cl⟩ w' ⟨hk8, hb, hown, kk⟩
  (conv => whnf)
  refine VCmp.mk (fun h2 => ?_) (fun h2 => ?_) <;> (conv => whnf)
  rotate_left 1
  · obtain rfl : k = 8 := by omega
    rw [List.take_of_length_le (l := bitsH hi x) (by rw [bitsH_len]; omega), ← openP_snoc hi l i x hx] at hown
    refine VRes.i64 (by omega) ?_; (conv => whnf)
    exact ⟨(i + 1, Al, cl), ⟨rfl, rfl, rfl, rfl, trivial⟩, ⟨by omega, hb, hown, kk⟩, by dsimp only; omega⟩
  have hs' := hs.keepNo kk
  have hlt := Blk.lt hb
  have hx8 := x.toNat_lt
  have hdiv : ∀ s, x.toNat / 2 ^ s < 256 := fun s => Nat.lt_of_le_of_lt (Nat.div_le_self _ _) (by omega)
  cases hi with
  | true =>
    (conv => whnf)
    have hneb : ¬ ownS Al w.heap.size := fun ⟨a, ha, e⟩ => hown.type_ne ha hb (by decide) e
    refine VDraw.by_ tt_ok rfl (.take 0 (.take 1 (.take 2 (.take 3 (.take 4 (.take 5 (.take 6 (.take 7 (.take 8 (.take 9 (.take 10 (.take 11 (.take 12 (.take 13 (.one 14 (.one 15 (.take 16 (.take 17 (.one 18 .done))))))))))))))))))) (by decide +kernel) (fun x => Keep (ownS Al) w' x) (fun x h1 h2 h3 h4 => (Keep.ofHeap h1 h2 h3 h4).mono (fun _ _ h => h.elim)) (fun wd hd kd => ?_)
    have kk := kk.trans kd
    (conv => whnf)
    refine VLoad.by_ (fun x hx => hx.cell (hb.cell 0) hneb) ?_
    (conv => whnf)
    refine VIdx.sl hs' i rfl (by omega) (fun b_ o_ hA_ hc_ => ?_)
    (conv => whnf)
    refine VLoad.by_ (fun x hx => hx.cell hc_ (fun ⟨a, ha, e⟩ => by have h1 := (hown.base_ ha).1; have h2 := Sl.lt hs (by omega) hA_; have e : a.block = b_ := e; have h2 : b_ < w.heap.size := h2; omega)) ?_
    (conv => whnf)
    refine VRes.i64 (by omega) ?_; (conv => whnf)
    refine VRes.u64 (by omega) ?_
    (conv => whnf)
    refine VReq.mk (by omega) ?_
    rw [hxd]
    refine VRes.shrN (N := x.toNat) (s := 7 - k) rfl (by omega) (by show _ ≤ 8; omega) ?_
    (conv => whnf)
    refine VRes.oddH (N := x.toNat / 2 ^ (7 - k)) rfl rfl (hdiv _) ?_
    (conv => whnf)
    refine VFill.by_ rfl ?_; (conv => whnf)
    refine ⟨fun w3 hb3 hk3 => ?_⟩
    (conv => whnf)
    refine VOwe.same ((kd.trans hk3).mono (fun _ _ h => h.elim)) ?_
    (conv => whnf)
    have hb := (hb.keepNo kd).keepNo hk3
    have hown := (hown.keepNo kd).keepNo hk3
    have kk := kk.trans hk3
    refine VApp.own tt_ok (it := ty22) (ei := ty5) rfl rfl rfl (size := 1) rfl rfl (by omega) hown (Sl.ofBlk (n := 1) (size := 1) hb3 rfl) (one8 [bitH true x k]) (by show (8 * i + k + 1) * 1 ≤ _; omega) (by omega) kk.size ?_
    intro A4 c4 w4 ho4 hk4 hat
    have hb := hb.keep hk4 (fun ⟨a, ha, e⟩ => hown.type_ne ha hb (by decide) e)
    have kk := kk.own hown hk4
    (conv => whnf)
    refine VOwe.same (((kd.trans hk3).mono (fun _ _ h => h.elim)).trans hk4) ?_
    (conv => whnf)
    refine VStore.one hb (by simp) ?_
    intro w5 hb5 hk5 _
    have ho5 := ho4.keep hk5 (fun a ha e => ho4.type_ne ha hb (by decide) e)
    have kk := kk.fresh_ hk5 (Nat.le_refl _)
    (conv => whnf)
    refine VOwe.to (fun _ => True) (fun h => absurd h (by decide +kernel)) trivial ?_; (conv => whnf)
    refine VRes.i64 (by omega) ?_; (conv => whnf)
    exact ⟨(k + 1, A4, c4), ⟨rfl, rfl, rfl, rfl, rfl, trivial⟩, ⟨by omega, hb5, by rw [bitsH_snoc _ _ _ (by omega), ← List.append_assoc, List.map_append]; exact ho5, kk⟩, by dsimp only; omega⟩
  | false =>
    (conv => whnf)
    have hneb : ¬ ownS Al w.heap.size := fun ⟨a, ha, e⟩ => hown.type_ne ha hb (by decide) e
    refine VDraw.by_ tt_ok rfl (.take 0 (.take 1 (.take 2 (.take 3 (.take 4 (.take 5 (.take 6 (.take 7 (.take 8 (.take 9 (.take 10 (.take 11 (.take 12 (.one 13 (.one 14 (.take 15 (.take 16 (.one 17 .done)))))))))))))))))) (by decide +kernel) (fun x => Keep (ownS Al) w' x) (fun x h1 h2 h3 h4 => (Keep.ofHeap h1 h2 h3 h4).mono (fun _ _ h => h.elim)) (fun wd hd kd => ?_)
    have kk := kk.trans kd
    (conv => whnf)
    refine VLoad.by_ (fun x hx => hx.cell (hb.cell 0) hneb) ?_
    (conv => whnf)
    refine VIdx.sl hs' i rfl (by omega) (fun b_ o_ hA_ hc_ => ?_)
    (conv => whnf)
    refine VLoad.by_ (fun x hx => hx.cell hc_ (fun ⟨a, ha, e⟩ => by have h1 := (hown.base_ ha).1; have h2 := Sl.lt hs (by omega) hA_; have e : a.block = b_ := e; have h2 : b_ < w.heap.size := h2; omega)) ?_
    (conv => whnf)
    refine VRes.u64 (by omega) ?_
    (conv => whnf)
    refine VReq.mk (by omega) ?_
    rw [hxd]
    refine VRes.shrN (N := x.toNat) (s := k) rfl (by omega) (by show _ ≤ 8; omega) ?_
    (conv => whnf)
    refine VRes.oddH (N := x.toNat / 2 ^ k) rfl rfl (hdiv _) ?_
    (conv => whnf)
    refine VFill.by_ rfl ?_; (conv => whnf)
    refine ⟨fun w3 hb3 hk3 => ?_⟩
    (conv => whnf)
    refine VOwe.same ((kd.trans hk3).mono (fun _ _ h => h.elim)) ?_
    (conv => whnf)
    have hb := (hb.keepNo kd).keepNo hk3
    have hown := (hown.keepNo kd).keepNo hk3
    have kk := kk.trans hk3
    refine VApp.own tt_ok (it := ty22) (ei := ty5) rfl rfl rfl (size := 1) rfl rfl (by omega) hown (Sl.ofBlk (n := 1) (size := 1) hb3 rfl) (one8 [bitH false x k]) (by show (8 * i + k + 1) * 1 ≤ _; omega) (by omega) kk.size ?_
    intro A4 c4 w4 ho4 hk4 hat
    have hb := hb.keep hk4 (fun ⟨a, ha, e⟩ => hown.type_ne ha hb (by decide) e)
    have kk := kk.own hown hk4
    (conv => whnf)
    refine VOwe.same (((kd.trans hk3).mono (fun _ _ h => h.elim)).trans hk4) ?_
    (conv => whnf)
    refine VStore.one hb (by simp) ?_
    intro w5 hb5 hk5 _
    have ho5 := ho4.keep hk5 (fun a ha e => ho4.type_ne ha hb (by decide) e)
    have kk := kk.fresh_ hk5 (Nat.le_refl _)
    (conv => whnf)
    refine VOwe.to (fun _ => True) (fun h => absurd h (by decide +kernel)) trivial ?_; (conv => whnf)
    refine VRes.i64 (by omega) ?_; (conv => whnf)
    exact ⟨(k + 1, A4, c4), ⟨rfl, rfl, rfl, rfl, rfl, trivial⟩, ⟨by omega, hb5, by rw [bitsH_snoc _ _ _ (by omega), ← List.append_assoc, List.map_append]; exact ho5, kk⟩, by dsimp only; omega⟩
end Go.Proofs.YtgmopcbfgcagaaaDoor
