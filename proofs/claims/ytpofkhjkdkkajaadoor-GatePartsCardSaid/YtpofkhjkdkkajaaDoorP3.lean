/-
  Packet: Decode, Encode, the reference's.
-/
import Derived.Test.YtpofkhjkdkkajaaDoorP2
namespace Go.Proofs.YtpofkhjkdkkajaaDoor.Pk
open Go V

theorem Pk.ext_ {p q : Pk} (h1 : p.code = q.code) (h2 : p.id = q.id) (h3 : p.data = q.data) : p = q := by cases p; cases q; simp_all
instance : DecidableEq Pk := fun p q => decidable_of_iff (p.code = q.code ∧ p.id = q.id ∧ p.data = q.data) ⟨fun ⟨a, b, c⟩ => Pk.ext_ a b c, fun h => by subst h; exact ⟨rfl, rfl, rfl⟩⟩

theorem decodeP_err (l : List UInt8) : (if (decodeP l).2 ∈ [(2 : Int), 4, 3] then (decodeP l).2 else 0) = (decodeP l).2 := by
  unfold decodeP
  split
  · decide
  · split
    · decide
    · split
      · decide
      · split <;> simp

theorem decode_ok (w : World) {A : Option Addr} {n c : Nat} {l : List UInt8} (hs : Sl w 1 A n (l.map vb)) (hn : n ≤ 100000) (hc : n ≤ c) :
    VC Tryd.prog 35 [.slice A n c] w (fun v w' => ∃ x, v = .tuple #[x, .int .i64 (decodeP l).2] ∧ PkV w' w.heap.size x (decodeP l).1 ∧ Keep No w w') := by
  refine VC.of tt_ok Tryd.func35 rfl (by decide +kernel) (Nat.le_of_ble_eq_true rfl) ?_; (conv => whnf)
  refine ⟨fun w1 hb1 hk1 => ?_⟩; have hb1_lt := Blk.lt hb1; have hk1_sz := hk1.size; (conv => whnf)
  refine (read_ok w1 (hs.keepNo hk1) hn hc).mono ?_
  rintro v w2 ⟨x, E, rfl, hx, hE, hk2⟩
  have hx0 := hx
  obtain ⟨A2, n2, c2, rfl, _⟩ := hx0
  have hk2_sz := hk2.size
  have kp := hk1.trans hk2
  have hb1 := hb1.keepNo hk2
  (conv => whnf)
  refine ⟨fun w3 hb3 hk3 => ?_⟩; have hb3_lt := Blk.lt hb3; have hk3_sz := hk3.size; (conv => whnf); (refine VReq.mk ⟨rfl, (fun u hu => List.all_eq_true.mp (show List.all _ (fun u => u.oneCell') = true by rfl) u hu)⟩ ?_; (conv => whnf)); refine VStore.all hb3 rfl ?_; intro w4 hb4 hk4 hk4_sz; have hk4 := Keep.fresh_ hk3 hk4 (Nat.le_refl _); (conv => whnf)
  have kp := kp.keepNo hk4; have hb1 := hb1.keepNo hk4; have hx := hx.keepNo hk4; have hE := hE.keepNo hk4
  have hb4' := hb4
  refine VDraw.by_ tt_ok rfl (.take 0 (.take 1 (.one 2 (.one 3 (.one 4 (.take 5 .done)))))) (by decide +kernel) _ (fun x h1 h2 h3 h4 => Keep.ofHeap h1 h2 h3 h4) (fun wd hd kd => ?_)
  have kp := kp.keepNo kd; have hb1 := hb1.keepNo kd; have hx := hx.keepNo kd; have hE := hE.keepNo kd; have hb4 := hb4.keepNo kd
  (conv => whnf)
  refine VLoads.keepBlk hb4' rfl ?_
  (conv => whnf)
  refine VFill.by_ rfl ?_; (conv => whnf)
  refine ⟨fun w5 hb5 hk5 => ?_⟩; have hb5_lt := Blk.lt hb5; have hk5_sz := hk5.size; (conv => whnf)
  have kd := kd.keepNo hk5; have kp := kp.keepNo hk5; have hb1 := hb1.keepNo hk5; have hx := hx.keepNo hk5; have hE := hE.keepNo hk5
  refine VOwe.same kd ?_
  (conv => whnf)
  refine (number_ok w5 hE (ks := [2, 4, 3]) (Sl.ofBlk (n := 3) (size := 1) hb5 rfl) (by omega) (by decide)).mono ?_
  rintro v w6 ⟨rfl, rfl⟩
  (conv => whnf)
  refine VOwe.same kd ?_
  (conv => whnf)
  (refine VReq.mk ⟨rfl, (fun u hu => List.all_eq_true.mp (show List.all _ (fun u => u.oneCell') = true by rfl) u hu)⟩ ?_; (conv => whnf))
  refine VStore.all hb1 rfl ?_
  intro w6 hb6 hk6 hk6_sz
  have hx := hx.keepLo hk6 (by omega)
  have kp := kp.fresh_ hk6 (Nat.le_refl _)
  (conv => whnf)
  refine VOwe.to (fun _ => True) (fun h => absurd h (by decide +kernel)) trivial ?_; (conv => whnf)
  refine VLoads.blk hb6 rfl ?_
  (conv => whnf)
  refine ⟨_, congrArg (fun k => Value.tuple #[_, .int .i64 k]) (decodeP_err l), hx.mono (by omega), kp⟩

def Pk.bad (p : Pk) : Prop := p.code < 0 ∨ 255 < p.code ∨ p.id < 0 ∨ 255 < p.id
instance (p : Pk) : Decidable p.bad := inferInstanceAs (Decidable (_ ∨ _ ∨ _ ∨ _))
/-- A packet's head. -/
def Pk.head (p : Pk) : List UInt8 := [UInt8.ofNat p.code.toNat, UInt8.ofNat p.id.toNat, UInt8.ofNat ((p.data.length + 4) / 2 ^ 8), UInt8.ofNat (p.data.length + 4)]
def encodeP (p : Pk) : List UInt8 × Int := if p.bad then ([], 1) else if 1496 < p.data.length then ([], 3) else (p.head ++ p.data, 0)

/-- A slice of bytes and a number. -/
def BytesN (w : World) (base : Nat) (v : Value) (r : List UInt8 × Int) : Prop := ∃ A c, v = .tuple #[.slice A r.1.length c, .int .i64 r.2] ∧ Own w base T8 1 A r.1.length c (r.1.map vb)




theorem refDecode_ok (w : World) {A : Option Addr} {n c : Nat} {l : List UInt8} (hs : Sl w 1 A n (l.map vb)) (hn : n ≤ 100000) (hc : n ≤ c) :
    VC Tryd.prog 39 [.slice A n c] w (fun v w' => ∃ x, v = .tuple #[x, .int .i64 (decodeP l).2] ∧ PkV w' w.heap.size x (decodeP l).1 ∧ Keep No w w') := by
  have hl : l.length = n := by simpa using hs.len
  refine VC.of tt_ok Tryd.func39 rfl (by decide +kernel) (Nat.le_of_ble_eq_true rfl) ?_; (conv => whnf)
  refine ⟨fun w1 hb1 hk1 => ?_⟩; have hb1_lt := Blk.lt hb1; have hk1_sz := hk1.size; (conv => whnf)
  refine VCmp.mk (fun h => ?_) (fun h => ?_) <;> (conv => whnf)
  · have hd : decodeP l = (Pk.zero, 2) := by unfold decodeP; rw [if_pos (by omega)]
    rw [hd]
    refine VFill.by_ rfl ?_; (conv => whnf)
    (refine VReq.mk ⟨rfl, (fun u hu => List.all_eq_true.mp (show List.all _ (fun u => u.oneCell') = true by rfl) u hu)⟩ ?_; (conv => whnf)); refine VStore.all (hb1) rfl ?_; intro w3 hb3 hk3 hk3_sz; (conv => whnf)
    refine VLoads.blk hb3 rfl ?_
    (conv => whnf)
    exact ⟨_, rfl, ⟨none, 0, 0, rfl, Sl.nil, Nat.le_refl _, fun a ha => by cases ha⟩, hk1.fresh_ hk3 (Nat.le_refl _)⟩
  have hs1 := hs.keepNo hk1
  refine VDraw.by_ tt_ok rfl (.take 0 (.take 1 (.take 2 (.take 3 (.take 4 (.take 5 (.take 6 (.take 7 (.take 8 (.take 9 (.take 10 .done))))))))))) (by decide +kernel) _ (fun x h1 h2 h3 h4 => Keep.ofHeap h1 h2 h3 h4) (fun wd hd kd => ?_)
  (conv => whnf)
  refine VIdx.sl (hs1) (2) (by first | rfl | omega) (by omega) (fun b_ o_ hA_ hc_ => ?_); (conv => whnf); refine VLoad.keep hc_ ?_; (conv => whnf)
  have htw := two_lt (l.getD 2 0) (l.getD 3 0)
  have b2 := (l.getD 2 0).toNat_lt
  have b3 := (l.getD 3 0).toNat_lt
  refine VRes.i64 (by omega) ?_; (conv => whnf)
  refine VReq.mk (by omega) ?_
  refine VRes.to (v' := .int .i64 ((l.getD 2 0).toNat * 256 : Nat)) (congrArg (Value.int .i64) (by
      show IntKind.wrap .i64 (((l.getD 2 0).toNat : Int) * 256) = _
      rw [wrap_i64 (by omega)]; omega)) ?_
  (conv => whnf)
  refine VIdx.sl (hs1) (3) (by first | rfl | omega) (by omega) (fun b_ o_ hA_ hc_ => ?_); (conv => whnf); refine VLoad.keep hc_ ?_; (conv => whnf)
  refine VRes.i64 (by omega) ?_; (conv => whnf)
  refine VRes.or2 rfl rfl ?_
  (conv => whnf)
  have hdec : decodeP l = (if two (l.getD 2 0) (l.getD 3 0) < 4 then (Pk.zero, 4) else if l.length < two (l.getD 2 0) (l.getD 3 0) then (Pk.zero, 2) else if 1500 < two (l.getD 2 0) (l.getD 3 0) then (Pk.zero, 3) else (⟨(l.getD 0 0).toNat, (l.getD 1 0).toNat, (l.take (two (l.getD 2 0) (l.getD 3 0))).drop 4⟩, 0)) := by
    unfold decodeP; rw [if_neg (by omega)]
  rw [hdec]
  generalize two (l.getD 2 0) (l.getD 3 0) = t at *
  have kp := hk1.trans kd
  have hb1 := hb1.keepNo kd
  have kd_sz := kd.size
  refine VCmp.mk (fun h4 => ?_) (fun h4 => ?_) <;> (conv => whnf)
  · rw [if_pos (by omega)]
    refine VFill.by_ rfl ?_; (conv => whnf)
    (refine VReq.mk ⟨rfl, (fun u hu => List.all_eq_true.mp (show List.all _ (fun u => u.oneCell') = true by rfl) u hu)⟩ ?_; (conv => whnf)); refine VStore.all (hb1) rfl ?_; intro w3 hb3 hk3 hk3_sz; (conv => whnf)
    refine VLoads.blk hb3 rfl ?_
    (conv => whnf)
    exact ⟨_, rfl, ⟨none, 0, 0, rfl, Sl.nil, Nat.le_refl _, fun a ha => by cases ha⟩, kp.fresh_ hk3 (Nat.le_refl _)⟩
  rw [if_neg (by omega)]
  refine VCmp.mk (fun h5 => ?_) (fun h5 => ?_) <;> (conv => whnf)
  · rw [if_pos (by omega)]
    refine VFill.by_ rfl ?_; (conv => whnf)
    (refine VReq.mk ⟨rfl, (fun u hu => List.all_eq_true.mp (show List.all _ (fun u => u.oneCell') = true by rfl) u hu)⟩ ?_; (conv => whnf)); refine VStore.all (hb1) rfl ?_; intro w3 hb3 hk3 hk3_sz; (conv => whnf)
    refine VLoads.blk hb3 rfl ?_
    (conv => whnf)
    exact ⟨_, rfl, ⟨none, 0, 0, rfl, Sl.nil, Nat.le_refl _, fun a ha => by cases ha⟩, kp.fresh_ hk3 (Nat.le_refl _)⟩
  rw [if_neg (by omega)]
  refine VCmp.mk (fun h6 => ?_) (fun h6 => ?_) <;> (conv => whnf)
  · rw [if_pos (by omega)]
    refine VFill.by_ rfl ?_; (conv => whnf)
    (refine VReq.mk ⟨rfl, (fun u hu => List.all_eq_true.mp (show List.all _ (fun u => u.oneCell') = true by rfl) u hu)⟩ ?_; (conv => whnf)); refine VStore.all (hb1) rfl ?_; intro w3 hb3 hk3 hk3_sz; (conv => whnf)
    refine VLoads.blk hb3 rfl ?_
    (conv => whnf)
    exact ⟨_, rfl, ⟨none, 0, 0, rfl, Sl.nil, Nat.le_refl _, fun a ha => by cases ha⟩, kp.fresh_ hk3 (Nat.le_refl _)⟩
  rw [if_neg (by omega)]
  have hs2 := hs.keepNo kp
  have kd0 := kd
  refine VDraw.by_ tt_ok rfl (.take 0 (.take 1 (.take 2 (.take 3 (.take 4 (.take 5 (.take 6 (.take 7 (.take 8 (.take 9 (.take 10 (.one 11 (.take 12 (.one 13 (.take 14 .done))))))))))))))) (by decide +kernel) _ (fun x h1 h2 h3 h4 => Keep.ofHeap h1 h2 h3 h4) (fun wd hd kd => ?_)
  have hb1 := hb1.keepNo kd; have kp := kp.keepNo kd
  have kd_sz := kd.size
  have b0 := (l.getD 0 0).toNat_lt
  have b1 := (l.getD 1 0).toNat_lt
  (conv => whnf)
  refine VIdx.sl (hs2) (0) (by first | rfl | omega) (by omega) (fun b_ o_ hA_ hc_ => ?_); (conv => whnf); refine VLoad.keep hc_ ?_; (conv => whnf)
  refine VRes.i64 (by omega) ?_; (conv => whnf)
  refine VIdx.sl (hs2) (1) (by first | rfl | omega) (by omega) (fun b_ o_ hA_ hc_ => ?_); (conv => whnf); refine VLoad.keep hc_ ?_; (conv => whnf)
  refine VRes.i64 (by omega) ?_; (conv => whnf)
  refine VCut.by_ 4 t rfl rfl (by omega) (by omega) ?_
  intro A2 hA2
  have hsc := (Sl.cut hs2 (l := 4) (h := t) (by omega) (by omega) hc hA2).keepNo kd
  rw [show ((l.map vb).take (t * 1)).drop (4 * 1) = ((l.take t).drop 4).map vb from by rw [Nat.mul_one, Nat.mul_one, List.map_drop, List.map_take]] at hsc
  (conv => whnf)
  refine (copy_ok _ hsc (by omega)).mono ?_
  rintro v w2 ⟨A3, c3, rfl, ho3, hk2⟩
  have hk2_sz := hk2.size
  have hb1 := hb1.keepNo hk2; have kp := kp.keepNo hk2; have kd := kd.keepNo hk2
  (conv => whnf)
  refine VOwe.same kd ?_
  (conv => whnf)
  refine VFill.by_ rfl ?_; (conv => whnf)
  (refine VReq.mk ⟨rfl, (fun u hu => List.all_eq_true.mp (show List.all _ (fun u => u.oneCell') = true by rfl) u hu)⟩ ?_; (conv => whnf)); refine VStore.all (hb1) rfl ?_; intro w3 hb3 hk3 hk3_sz; (conv => whnf)
  refine VOwe.to (fun _ => True) (fun h => absurd h (by decide +kernel)) trivial ?_; (conv => whnf)
  refine VLoads.blk hb3 rfl ?_
  (conv => whnf)
  exact ⟨_, rfl, ⟨A3, _, c3, rfl, Sl.ofOwn (ho3.keep hk3 (fun a ha e => by have := (ho3.base_ ha).1; omega)), ho3.le, fun a ha => by have := (ho3.base_ ha).1; omega⟩, kp.fresh_ hk3 (Nat.le_refl _)⟩

end Go.Proofs.YtpofkhjkdkkajaaDoor.Pk
