/-
  Law 18: stored blocks. For every input.
-/
import Derived.Test.YtgmopcbfgcagaaaDoorI12
import Derived.Test.YtgmopcbfgcagaaaDoorLi
import Derived.Test.YtgmopcbfgcagaaaDoorVl
namespace Go.Proofs.YtgmopcbfgcagaaaDoor
open Go V Go.ChangeShapes Go.WideShapes Go.ChangeAt Go.RowKit

theorem VRes.not8 {x : UInt8} {a : Int} {K : Value → Prop} (ha : a = (x.toNat : Int)) (hK : K (vb (~~~x))) :
    VRes (.int .u8 (IntKind.wrap .u8 ((BitVec.ofInt (IntKind.bits .u8) (if IntKind.signed .u8 = true then -1 else IntKind.max .u8) ^^^ BitVec.ofInt (IntKind.bits .u8) a).toNat : Int))) K := by
  subst ha
  have e : BitVec.ofInt 8 (if IntKind.signed .u8 = true then -1 else IntKind.max .u8) = BitVec.allOnes 8 := by decide
  show VRes (.int .u8 (IntKind.wrap .u8 ((BitVec.ofInt 8 (if IntKind.signed .u8 = true then -1 else IntKind.max .u8) ^^^ BitVec.ofInt 8 (x.toNat : Int)).toNat : Int))) K
  rw [e]
  show VRes (.int .u8 (IntKind.wrap .u8 ((BitVec.allOnes 8 ^^^ BitVec.ofInt 8 (x.toNat : Int)).toNat : Int))) K
  rw [ofInt_toNat8, wrap_nat8, Nat.mod_eq_of_lt (BitVec.isLt _), BitVec.allOnes_xor]
  exact ⟨by simpa [vb] using hK⟩
theorem VRes.shlN8 {N s : Nat} {a l : Int} {K : Value → Prop} (ha : a = (N : Int)) (hl : l = (s : Int)) (hs : s ≤ 8) (hK : K (vb (UInt8.ofNat (N * 2 ^ s)))) :
    VRes (.int .u8 (IntKind.wrap .u8 (a * 2 ^ (min l.toNat (IntKind.bits .u8))))) K := by
  subst ha; subst hl
  refine VRes.byte (N := N * 2 ^ s) ?_ hK
  have : min (Int.toNat (s : Int)) (IntKind.bits .u8) = s := by
    have : IntKind.bits .u8 = 8 := rfl
    rw [this, Int.toNat_natCast]; omega
  rw [this]
  simp
theorem Own.put {w : World} {base n c : Nat} {A : Option Addr} {xs : List UInt8} (h : Own w base T8 1 A n c (xs.map vb)) {j : Nat} (hj : j < n) :
    ∃ g cs, A = some ⟨g, 0, none⟩ ∧ base ≤ g ∧ Blk w g T8 cs ∧ j < cs.length ∧ w.cell? ⟨g, j, none⟩ = some (vb (xs.getD j 0)) ∧ ∀ w' x, Blk w' g T8 (cs.set j (vb x)) → Own w' base T8 1 A n c ((xs.set j x).map vb) := by
  have hxl : xs.length = n := by simpa using h.1
  rcases h.2 with ⟨_, rfl⟩ | ⟨g, cap, cur, hv, hbg, hg, hnc, hcm, hcs, htake⟩
  · omega
  · have hB : Blk w g T8 cur.toList := hg
    have hA : A = some ⟨g, 0, none⟩ := by injection hv
    have hcl : cur.toList.length = cap * 1 := by rw [Array.length_toList]; exact hcs
    refine ⟨g, cur.toList, hA, hbg, hB, by omega, ?_, fun w' x hb' => ⟨by rw [List.length_map, List.length_set, hxl]; omega, .inr ⟨g, cap, (cur.toList.set j (vb x)).toArray, hv, hbg, hb', hnc, hcm, by simpa using hcs, ?_⟩⟩⟩
    · rw [hB.cell]
      have : (cur.toList.take (n * 1))[j]? = (xs.map vb)[j]? := by rw [htake]
      rw [List.getElem?_take_of_lt (by omega)] at this
      rw [this, List.getElem?_map, List.getD_eq_getElem?_getD, List.getElem?_eq_getElem (by omega)]
      rfl
    · show List.take (n * 1) (cur.toList.set j (vb x)) = _
      rw [List.take_set, htake, List.map_set]
theorem bit_ne (j : Nat) (h : j < 8) : UInt8.ofNat (1 * 2 ^ j) ≠ 0 := by
  have : j = 0 ∨ j = 1 ∨ j = 2 ∨ j = 3 ∨ j = 4 ∨ j = 5 ∨ j = 6 ∨ j = 7 := by omega
  rcases this with rfl | rfl | rfl | rfl | rfl | rfl | rfl | rfl <;> decide
/-- What the three calls tell. -/
theorem stored_whole {b zs : List UInt8} (hb : b.length ≤ 1000) {most : Nat} {f : Nat} (hf : zs.length + 1 ≤ f) :
    NoDyns f (startS (outK b zs (zs.length + 1)) [] most) ∧ (if b.length ≤ most then blocksF f (startS (outK b zs (zs.length + 1)) [] most) = .ok ⟨outK b zs (zs.length + 1), 8 * (outK b zs (zs.length + 1)).length, b, 0, most⟩ else blocksF f (startS (outK b zs (zs.length + 1)) [] most) = .error 3) := by
  have hne : psK b zs ≠ [] := fun e => by have := psK_len b zs; rw [e] at this; simp at this
  obtain ⟨h1, h2⟩ := parts_read (most := most) (psK b zs) [] (outK b zs (zs.length + 1)) [] f hne (psK_short b zs (by omega)) (by rw [outK_parts, List.nil_append]) (by rw [psK_len]; exact hf)
  refine ⟨h1, ?_⟩
  rw [psK_flat, List.length_nil, Nat.zero_add] at h2
  by_cases hm : b.length ≤ most
  · rw [if_pos hm] at h2 ⊢
    exact h2
  · rw [if_neg hm] at h2 ⊢
    exact h2 (by omega)
theorem stored_bent {b zs : List UInt8} {k : Nat} (hk : k < 4) {y : UInt8} (hy : y ≠ 0) {most f : Nat} :
    NoDyns (f + 1) (startS ((outK b zs (zs.length + 1)).set (1 + k) ((outK b zs (zs.length + 1)).getD (1 + k) 0 ^^^ y)) [] most) ∧ blocksF (f + 1) (startS ((outK b zs (zs.length + 1)).set (1 + k) ((outK b zs (zs.length + 1)).getD (1 + k) 0 ^^^ y)) [] most) = .error 10 := by
  obtain ⟨g, n, rest, h1, h2⟩ := outK_head b zs
  obtain ⟨x1, x2, x3, x4, h3, h4⟩ := bent g n rest k hk hy
  rw [h1, h3]
  obtain ⟨q1, q2⟩ := blockF_bent (s := startS ([g, x1, x2, x3, x4] ++ rest) [] most) (rest := rest) rfl rfl h2 h4
  refine ⟨⟨q1, by rw [q2]; trivial⟩, ?_⟩
  unfold blocksF
  rw [q2]

set_option maxRecDepth 100000 in
set_option maxHeartbeats 4000000 in
theorem inflateStored_ok (W : World) (hg : EtOk W) (A : Option Addr) (n c : Nat) (l : List UInt8) (hs : Sl W 1 A n (l.map vb)) (hnc : n ≤ c) (_ : c ≤ 9223372036854775807) (_ : ∀ a, A = some a → 0 < n → a.block < W.heap.size)
    (B : Option Addr) (m d : Nat) (zs : List UInt8) (ht : Sl W 1 B m (zs.map vb)) (_ : m ≤ d) (_ : d ≤ 9223372036854775807) (_ : ∀ a, B = some a → 0 < m → a.block < W.heap.size) (bit : UInt8) :
    VC Tryd.prog 3 [.slice A n c, .slice B m d, vb bit] W (fun v w' => v = .bool true ∧ Keep No W w') := by
  have hl : l.length = n := by simpa using hs.len
  have hz : zs.length = m := by simpa using ht.len
  refine VC.of tt_ok Tryd.func3 rfl (by decide +kernel) (Nat.le_of_ble_eq_true rfl) ?_; (conv => whnf)
  refine (awake18_ok W hg).mono ?_
  rintro v w1 ⟨rfl, kp1⟩
  (conv => whnf)
  refine VCmp.mk (fun h => ?_) (fun h => ?_) <;> (conv => whnf)
  · exact ⟨rfl, kp1⟩
  refine VCmp.mk (fun h2 => ?_) (fun h2 => ?_) <;> (conv => whnf)
  · exact ⟨rfl, kp1⟩
  have hn : n ≤ 1000 := by omega
  have hm : m ≤ 30 := by omega
  refine VLoop.by_ tt_ok (S := Nat × Option Addr × Nat) (fun | (k, Al, cl) => [(0, .slice A n c), (1, .slice B m d), (2, vb bit), (7, .slice Al (outK l zs k).length cl), (8, .int .i64 (posK l zs k)), (9, .int .i64 k)])
    (fun | (k, Al, cl) => fun w' => k ≤ m + 1 ∧ Own w' W.heap.size T8 1 Al (outK l zs k).length cl ((outK l zs k).map vb) ∧ Keep No W w') (fun | (k, _, _) => m + 1 - k)
    (0, none, 0) ⟨rfl, rfl, rfl, rfl, rfl, rfl, trivial⟩ ⟨by omega, Own.nil _ _ _ _, kp1⟩ ?_
  rintro ⟨k, Al, cl⟩ w2 ⟨hk, ho, kp⟩
  have hp1 := posK_le l zs k
  have hp2 := posK_le l zs (k + 1)
  have hp3 : posK l zs (k + 1) = posK l zs k + nK l zs k (posK l zs k) := rfl
  have hol := outK_len l zs k
  have hkp := kp.size
  (conv => whnf)
  refine VCmp.mk (fun h3 => ?_) (fun h3 => ?_) <;> (conv => whnf)
  rotate_left 1
  · obtain rfl : k = m + 1 := by omega
    have hOl : (outK l zs (m + 1)).length = 5 * (m + 1) + n := by rw [outK_len, ← hz, posK_end, hl]
    have hSt := stored_whole (b := l) (zs := zs) (by omega) (most := n) (f := 8 * (outK l zs (m + 1)).length + 1) (by omega)
    rw [hz, if_pos (by omega)] at hSt
    have hSt2 := stored_whole (b := l) (zs := zs) (by omega) (most := n - 1) (f := 8 * (outK l zs (m + 1)).length + 1) (by omega)
    rw [hz] at hSt2
    have hs2 := Sl.ofOwn ho
    refine (Blocks_ok w2 (hg.keepNo kp) (b := (outK l zs (m + 1))) (hist := []) (most := n) hs2 Sl.nil (by omega) (by omega) (by omega) (by omega) hSt.1).mono ?_
    rintro v w3 ⟨hv, k3⟩
    rw [hSt.2] at hv
    dsimp only at hv
    rw [List.drop_zero] at hv
    obtain ⟨A3, c3, rfl, ho3⟩ := hv
    have kp3 := kp.trans k3
    (conv => whnf)
    refine VCmp.mk (fun h => absurd rfl h) (fun _ => ?_); (conv => whnf)
    refine VCmp.mk (fun h4 => absurd h4 (by omega)) (fun _ => ?_); (conv => whnf)
    refine (same_ok w3 (l := l) (r := l) (by have := Sl.ofOwn ho3; exact (hl ▸ this)) (hs.keepNo kp3) (by omega)).mono ?_
    rintro v w4 ⟨rfl, k4⟩
    have kp4 := kp3.trans k4
    have hO4 := (ho.keepNo k3).keepNo k4
    rw [decide_eq_true rfl]
    (conv => whnf)
    refine VCmp.mk (fun h5 => ?_) (fun h5 => ?_) <;> (conv => whnf)
    · refine VRes.i64 (by omega) ?_
      (conv => whnf)
      rw [show (n : Int) - 1 = ((n - 1 : Nat) : Int) from by omega]
      refine (Blocks_ok w4 (hg.keepNo kp4) (b := (outK l zs (m + 1))) (hist := []) (most := n - 1) (Sl.ofOwn hO4) Sl.nil (by omega) (by omega) (by omega) (by omega) hSt2.1).mono ?_
      rintro v w5 ⟨hv, k5⟩
      rw [if_neg (by omega)] at hSt2
      rw [hSt2.2] at hv
      have hv : v = .tuple #[.slice none 0 0, .int .i64 0, .int .i64 3] := hv
      subst hv
      have kp5 := kp4.trans k5
      have hO5 := hO4.keepNo k5
      (conv => whnf)
      refine VCmp.mk (fun h => absurd rfl h) (fun _ => ?_); (conv => whnf)
      have hj := Nat.mod_lt bit.toNat (show 0 < 4 by omega)
      have hj8 := Nat.mod_lt bit.toNat (show 0 < 8 by omega)
      have hb256 := bit.toNat_lt
      refine VRes.i64 (by omega) ?_
      (conv => whnf)
      refine VReq.mk (by omega) ?_
      refine VRes.raw ?_
      rw [show (bit.toNat : Int).tmod 4 = ((bit.toNat % 4 : Nat) : Int) from rfl]
      (conv => whnf)
      refine VRes.i64 (by omega) ?_; (conv => whnf)
      obtain ⟨g, cs, rfl, hbg, hcs, hjl, hcell, hput⟩ := Own.put hO5 (j := 1 + bit.toNat % 4) (by omega)
      refine VIdx.one (1 + bit.toNat % 4) (by omega) (by omega) rfl ?_
      (conv => whnf)
      refine VLoad.by_ (by simpa using hcell) ?_
      (conv => whnf)
      refine VReq.mk (by omega) ?_
      refine VRes.raw ?_
      rw [show (bit.toNat : Int).tmod 8 = ((bit.toNat % 8 : Nat) : Int) from rfl]
      (conv => whnf)
      refine VRes.u64 (by omega) ?_
      (conv => whnf)
      refine VReq.mk (by omega) ?_
      refine VRes.shlN8 (N := 1) (s := bit.toNat % 8) rfl rfl (by omega) ?_
      (conv => whnf)
      refine VRes.xor8 rfl ?_
      (conv => whnf)
      refine VIdx.one (1 + bit.toNat % 4) (by omega) (by omega) rfl ?_
      (conv => whnf)
      refine VStore.one hcs (by simpa using hjl) ?_
      intro w6 hb6 k6 _
      have kp6 := kp5.toNo k6 (fun i e => by subst e; exact hbg)
      have hO6 := hput w6 ((outK l zs (m + 1)).getD (1 + bit.toNat % 4) 0 ^^^ UInt8.ofNat (1 * 2 ^ (bit.toNat % 8))) (by rw [Nat.zero_add] at hb6; exact hb6)
      have hSt3 := stored_bent (b := l) (zs := zs) (k := bit.toNat % 4) hj (bit_ne _ hj8) (most := 9000) (f := 8 * (outK l zs (m + 1)).length)
      rw [hz] at hSt3
      (conv => whnf)
      refine (Blocks_ok w6 (hg.keepNo kp6) (b := (outK l zs (m + 1)).set (1 + bit.toNat % 4) ((outK l zs (m + 1)).getD (1 + bit.toNat % 4) 0 ^^^ UInt8.ofNat (1 * 2 ^ (bit.toNat % 8)))) (hist := []) (most := 9000) (Sl.ofOwn hO6) Sl.nil (by omega) (by omega) (by omega) (by omega) (by rw [List.length_set]; exact hSt3.1)).mono ?_
      rintro v w7 ⟨hv, k7⟩
      rw [List.length_set, hSt3.2] at hv
      have hv : v = .tuple #[.slice none 0 0, .int .i64 0, .int .i64 10] := hv
      subst hv
      (conv => whnf)
      refine VCmp.mk (fun _ => ?_) (fun h => absurd rfl h); (conv => whnf)
      exact ⟨rfl, kp6.trans k7⟩
    have kp5 := kp4
    have hO5 := hO4
    have hj := Nat.mod_lt bit.toNat (show 0 < 4 by omega)
    have hj8 := Nat.mod_lt bit.toNat (show 0 < 8 by omega)
    have hb256 := bit.toNat_lt
    refine VRes.i64 (by omega) ?_
    (conv => whnf)
    refine VReq.mk (by omega) ?_
    refine VRes.raw ?_
    rw [show (bit.toNat : Int).tmod 4 = ((bit.toNat % 4 : Nat) : Int) from rfl]
    (conv => whnf)
    refine VRes.i64 (by omega) ?_; (conv => whnf)
    obtain ⟨g, cs, rfl, hbg, hcs, hjl, hcell, hput⟩ := Own.put hO5 (j := 1 + bit.toNat % 4) (by omega)
    refine VIdx.one (1 + bit.toNat % 4) (by omega) (by omega) rfl ?_
    (conv => whnf)
    refine VLoad.by_ (by simpa using hcell) ?_
    (conv => whnf)
    refine VReq.mk (by omega) ?_
    refine VRes.raw ?_
    rw [show (bit.toNat : Int).tmod 8 = ((bit.toNat % 8 : Nat) : Int) from rfl]
    (conv => whnf)
    refine VRes.u64 (by omega) ?_
    (conv => whnf)
    refine VReq.mk (by omega) ?_
    refine VRes.shlN8 (N := 1) (s := bit.toNat % 8) rfl rfl (by omega) ?_
    (conv => whnf)
    refine VRes.xor8 rfl ?_
    (conv => whnf)
    refine VIdx.one (1 + bit.toNat % 4) (by omega) (by omega) rfl ?_
    (conv => whnf)
    refine VStore.one hcs (by simpa using hjl) ?_
    intro w6 hb6 k6 _
    have kp6 := kp5.toNo k6 (fun i e => by subst e; exact hbg)
    have hO6 := hput w6 ((outK l zs (m + 1)).getD (1 + bit.toNat % 4) 0 ^^^ UInt8.ofNat (1 * 2 ^ (bit.toNat % 8))) (by rw [Nat.zero_add] at hb6; exact hb6)
    have hSt3 := stored_bent (b := l) (zs := zs) (k := bit.toNat % 4) hj (bit_ne _ hj8) (most := 9000) (f := 8 * (outK l zs (m + 1)).length)
    rw [hz] at hSt3
    (conv => whnf)
    refine (Blocks_ok w6 (hg.keepNo kp6) (b := (outK l zs (m + 1)).set (1 + bit.toNat % 4) ((outK l zs (m + 1)).getD (1 + bit.toNat % 4) 0 ^^^ UInt8.ofNat (1 * 2 ^ (bit.toNat % 8)))) (hist := []) (most := 9000) (Sl.ofOwn hO6) Sl.nil (by omega) (by omega) (by omega) (by omega) (by rw [List.length_set]; exact hSt3.1)).mono ?_
    rintro v w7 ⟨hv, k7⟩
    rw [List.length_set, hSt3.2] at hv
    have hv : v = .tuple #[.slice none 0 0, .int .i64 0, .int .i64 10] := hv
    subst hv
    (conv => whnf)
    refine VCmp.mk (fun _ => ?_) (fun h => absurd rfl h); (conv => whnf)
    exact ⟨rfl, kp6.trans k7⟩
  refine VRes.i64 (by omega) ?_
  (conv => whnf)
  refine VCmp.mk (fun h4 => ?_) (fun h4 => ?_) <;> (conv => whnf)
  · refine VIdx.sl (ht.keepNo kp) k rfl (by omega) (fun b_ o_ hA_ hc_ => ?_)
    (conv => whnf)
    refine VLoad.by_ hc_ ?_
    (conv => whnf)
    have hz256 := (zs.getD k 0).toNat_lt
    refine VRes.i64 (by omega) ?_
    (conv => whnf)
    have hmin : nK l zs k (posK l zs k) = min (zs.getD k 0).toNat (l.length - posK l zs k) := by unfold nK; rw [if_pos (by omega)]
    refine VRes.to (congrArg (Value.int .i64) (show _ = ((nK l zs k (posK l zs k) : Nat) : Int) from by split <;> omega)) ?_
    have ite_flag : (if k < zs.length then (0 : UInt8) else 1) = 0 := if_pos (by omega)
    (conv => whnf)
    refine VRes.byte (N := nK l zs k (posK l zs k)) rfl ?_
    (conv => whnf)
    refine VReq.mk (by omega) ?_
    refine VRes.shrN (N := nK l zs k (posK l zs k)) (s := 8) rfl rfl (by decide) ?_
    (conv => whnf)
    refine VRes.byte (N := nK l zs k (posK l zs k) / 2 ^ 8) rfl ?_
    (conv => whnf)
    refine VRes.byte (N := nK l zs k (posK l zs k)) rfl ?_
    (conv => whnf)
    refine VRes.not8 (x := UInt8.ofNat (nK l zs k (posK l zs k))) rfl ?_
    (conv => whnf)
    refine VReq.mk (by omega) ?_
    refine VRes.shrN (N := nK l zs k (posK l zs k)) (s := 8) rfl rfl (by decide) ?_
    (conv => whnf)
    refine VRes.byte (N := nK l zs k (posK l zs k) / 2 ^ 8) rfl ?_
    (conv => whnf)
    refine VRes.not8 (x := UInt8.ofNat (nK l zs k (posK l zs k) / 2 ^ 8)) rfl ?_
    (conv => whnf)
    refine VFill.by_ rfl ?_; (conv => whnf)
    refine ⟨fun w3 hb3 k3 => ?_⟩
    have kp3 := kp.trans k3
    have hs3 : Sl w3 1 (some ⟨w2.heap.size, 0, none⟩) 5 ((hdr (if k < zs.length then 0 else 1) (nK l zs k (posK l zs k))).map vb) := by
      rw [ite_flag]
      exact Sl.ofBlk (n := 5) (size := 1) hb3 rfl
    (conv => whnf)
    refine app8 (w0 := W) kp3 (ho.keepNo k3) hs3 (by omega) ?_
    intro A4 c4 w4 ho4 kp4 _ _
    have e4 : (outK l zs k).length + 5 = (outK l zs k ++ hdr (if k < zs.length then 0 else 1) (nK l zs k (posK l zs k))).length := by rw [List.length_append]; rfl
    rw [e4] at ho4
    rw [e4]
    (conv => whnf)
    refine VRes.i64 (by omega) ?_
    (conv => whnf)
    refine VCut.by_ (posK l zs k) (posK l zs (k + 1)) rfl (by omega) (by omega) (by omega) ?_
    intro A5 hA5
    have h5 := Sl.cut8 (hs.keepNo kp4) (l := posK l zs k) (h := posK l zs (k + 1)) (by omega) (by omega) hnc (A' := A5) hA5
    have e5 : (l.take (posK l zs (k + 1))).drop (posK l zs k) = prtK l zs k := rfl
    rw [e5] at h5
    (conv => whnf)
    refine app8 (w0 := W) kp4 ho4 h5 (by omega) ?_
    intro A6 c6 w6 ho6 kp6 _ _
    have e6 : (outK l zs k ++ hdr (if k < zs.length then 0 else 1) (nK l zs k (posK l zs k))).length + (posK l zs (k + 1) - posK l zs k) = (outK l zs (k + 1)).length := by
      rw [outK_len, ← e4, outK_len]; omega
    rw [e6] at ho6
    rw [e6]
    (conv => whnf)
    refine VRes.i64 (by omega) ?_
    (conv => whnf)
    refine VRes.i64 (by omega) ?_; (conv => whnf)
    exact ⟨(k + 1, A6, c6), ⟨rfl, rfl, rfl, rfl, rfl, rfl, trivial⟩, ⟨by omega, ho6, kp6⟩, by dsimp only; omega⟩
  have hmin : nK l zs k (posK l zs k) = l.length - posK l zs k := by unfold nK; rw [if_neg (by omega)]
  rw [show (n : Int) - (posK l zs k : Int) = ((nK l zs k (posK l zs k) : Nat) : Int) from by omega]
  have ite_flag : (if k < zs.length then (0 : UInt8) else 1) = 1 := if_neg (by omega)
  (conv => whnf)
  refine VRes.byte (N := nK l zs k (posK l zs k)) rfl ?_
  (conv => whnf)
  refine VReq.mk (by omega) ?_
  refine VRes.shrN (N := nK l zs k (posK l zs k)) (s := 8) rfl rfl (by decide) ?_
  (conv => whnf)
  refine VRes.byte (N := nK l zs k (posK l zs k) / 2 ^ 8) rfl ?_
  (conv => whnf)
  refine VRes.byte (N := nK l zs k (posK l zs k)) rfl ?_
  (conv => whnf)
  refine VRes.not8 (x := UInt8.ofNat (nK l zs k (posK l zs k))) rfl ?_
  (conv => whnf)
  refine VReq.mk (by omega) ?_
  refine VRes.shrN (N := nK l zs k (posK l zs k)) (s := 8) rfl rfl (by decide) ?_
  (conv => whnf)
  refine VRes.byte (N := nK l zs k (posK l zs k) / 2 ^ 8) rfl ?_
  (conv => whnf)
  refine VRes.not8 (x := UInt8.ofNat (nK l zs k (posK l zs k) / 2 ^ 8)) rfl ?_
  (conv => whnf)
  refine VFill.by_ rfl ?_; (conv => whnf)
  refine ⟨fun w3 hb3 k3 => ?_⟩
  have kp3 := kp.trans k3
  have hs3 : Sl w3 1 (some ⟨w2.heap.size, 0, none⟩) 5 ((hdr (if k < zs.length then 0 else 1) (nK l zs k (posK l zs k))).map vb) := by
    rw [ite_flag]
    exact Sl.ofBlk (n := 5) (size := 1) hb3 rfl
  (conv => whnf)
  refine app8 (w0 := W) kp3 (ho.keepNo k3) hs3 (by omega) ?_
  intro A4 c4 w4 ho4 kp4 _ _
  have e4 : (outK l zs k).length + 5 = (outK l zs k ++ hdr (if k < zs.length then 0 else 1) (nK l zs k (posK l zs k))).length := by rw [List.length_append]; rfl
  rw [e4] at ho4
  rw [e4]
  (conv => whnf)
  refine VRes.i64 (by omega) ?_
  (conv => whnf)
  refine VCut.by_ (posK l zs k) (posK l zs (k + 1)) rfl (by omega) (by omega) (by omega) ?_
  intro A5 hA5
  have h5 := Sl.cut8 (hs.keepNo kp4) (l := posK l zs k) (h := posK l zs (k + 1)) (by omega) (by omega) hnc (A' := A5) hA5
  have e5 : (l.take (posK l zs (k + 1))).drop (posK l zs k) = prtK l zs k := rfl
  rw [e5] at h5
  (conv => whnf)
  refine app8 (w0 := W) kp4 ho4 h5 (by omega) ?_
  intro A6 c6 w6 ho6 kp6 _ _
  have e6 : (outK l zs k ++ hdr (if k < zs.length then 0 else 1) (nK l zs k (posK l zs k))).length + (posK l zs (k + 1) - posK l zs k) = (outK l zs (k + 1)).length := by
    rw [outK_len, ← e4, outK_len]; omega
  rw [e6] at ho6
  rw [e6]
  (conv => whnf)
  refine VRes.i64 (by omega) ?_
  (conv => whnf)
  refine VRes.i64 (by omega) ?_; (conv => whnf)
  exact ⟨(k + 1, A6, c6), ⟨rfl, rfl, rfl, rfl, rfl, rfl, trivial⟩, ⟨by omega, ho6, kp6⟩, by dsimp only; omega⟩

/-! ### The statement -/
theorem inflateStored_own : ownKnob Tryd.prog.godebug = none := by kernel_rfl
theorem inflateStored_laid : laidOutB Tryd.prog = true := by kernel_rfl
set_option maxRecDepth 100000 in
theorem inflateStored_lifted (os : Os) (started : os.Started) (H : Type) (enc : TypeId × Value → H) :
    ReturnsInHanded {} Tryd.checked os 3 .any (fun w args => (Rows.inflateStoredSpec.pre enc Tryd.prog Tryd.f3 Rows.inflateStoredRow.domain false w args ∧ laidMetH Tryd.prog laidL w) ∧ sizedMet enc Tryd.prog Tryd.f3 (OpenSpec.ofChange Rows.inflateStoredSpec) false w args) (Rows.inflateStoredSpec.post enc Tryd.prog Tryd.f3 false true false false) := by
  refine returnsInHanded_of_change_and (C := Tryd.checked) (X := fun w _ => laidMetH Tryd.prog laidL w) (fun _ _ _ hh h => h.of_heap hh) inflateStored_own started (by kernel_rfl) Tryd.func3
    (ChangeSpec.witness_at (enc := enc) (C := Tryd.checked) (os := os) (X := fun w _ => laidMetH Tryd.prog laidL w) false (laidWorld os) #[.slice none 0 0, .slice none 0 0, .int .u8 0] 8 (by first | rfl | exact laidWorld_os os) (by kernel_rfl) (by kernel_rfl) (by kernel_rfl) (by kernel_rfl) (by kernel_rfl) (laidWorld_met os _)) ?_
  intro W base args ds gs before hval0 hW hcnd _ hL _
  have hg := handle_of_laid hL
  have hval : ∀ (j : Nat) t v, Tryd.f3.params[j]? = some t → args[j]? = some v → Value.okWide Tryd.prog W .any base t v := hval0
  have hW' := hW
  obtain ⟨p, q, hA0, hV, rfl, hfz, hnd⟩ := hW
  have hA : DataW.TrodAll enc Tryd.prog W 0 (fun _ => true) true Tryd.f3.params.toList args.toList ds p := hA0
  rw [Tryd.params3] at hA hval
  obtain ⟨v0, vs0, d0, ds0, p0, q0, hargs, rfl, rfl, h0, r0⟩ := trodAll_cons hA
  obtain ⟨v1, vs1, d1, ds1, p1, q1, rfl, rfl, rfl, h1, r1⟩ := trodAll_cons r0
  obtain ⟨v2, vs2, d2, ds2, p2, q2, rfl, rfl, rfl, h2, r2⟩ := trodAll_cons r1
  obtain ⟨rfl, rfl, rfl⟩ := trodAll_nil r2
  obtain rfl : args = #[v0, v1, v2] := by cases args; simp_all
  obtain ⟨rfl, rfl⟩ := trodVars_none hV
  have k0 := h0
  have lt0 : ∀ x ∈ p0, x.block < W.heap.size := by obtain ⟨m, hm⟩ := k0; exact DataW.trod_lt m _ _ _ hm
  obtain ⟨aa0, la0, ca0, rfl⟩ := okWide_slice Tryd.underlying22 (hval 0 22 v0 rfl rfl)
  obtain ⟨fuel0, hf0⟩ := h0
  obtain ⟨A0, n0, c0, l0, e0, s0, ln0, nc0, cc0, b0⟩ := open_bytes Tryd.underlying22 Tryd.underlying5 (by kernel_rfl) hf0
  cases e0
  have k1 := h1
  have lt1 : ∀ x ∈ p1, x.block < W.heap.size := by obtain ⟨m, hm⟩ := k1; exact DataW.trod_lt m _ _ _ hm
  obtain ⟨aa1, la1, ca1, rfl⟩ := okWide_slice Tryd.underlying22 (hval 1 22 v1 rfl rfl)
  obtain ⟨fuel1, hf1⟩ := h1
  obtain ⟨A1, n1, c1, l1, e1, s1, ln1, nc1, cc1, b1⟩ := open_bytes Tryd.underlying22 Tryd.underlying5 (by kernel_rfl) hf1
  cases e1
  have k2 := h2
  have lt2 : ∀ x ∈ p2, x.block < W.heap.size := by obtain ⟨m, hm⟩ := k2; exact DataW.trod_lt m _ _ _ hm
  obtain ⟨a2, rfl, rfl, rfl, w2⟩ := open_int Tryd.underlying5 (hval 2 5 v2 rfl rfl) h2
  obtain ⟨m2, rfl⟩ := byte_of w2
  clear hA0 hval0
  refine (VC.law (inflateStored_ok W hg aa0 la0 ca0 l0 s0 nc0 cc0 b0 aa1 la1 ca1 l1 s1 nc1 cc1 b1 m2)).mono fun e W' ⟨he, bel⟩ => ?_
  subst he
  exact ⟨_, rfl, _, _, _, [], _, [], hW', trodAll_mk1 (shut_bool Tryd.underlying4 _), (trodAll_cons_mk (Below.trod inflateStored_laid (by kernel_rfl) (of_decide_eq_true (by kernel_rfl)) k0 bel lt0) (trodAll_cons_mk (Below.trod inflateStored_laid (by kernel_rfl) (of_decide_eq_true (by kernel_rfl)) k1 bel lt1) (trodAll_cons_mk (Below.trod inflateStored_laid (by kernel_rfl) (of_decide_eq_true (by kernel_rfl)) k2 bel lt2) trodAll_mk0))), rfl, bel.frame _, fun h => by cases h⟩

theorem inflateStored_over : Rows.inflateStoredRow.holds Tryd.pinned (OpenSpec.ofChange Rows.inflateStoredSpec) :=
  OpenClaim.holds_of_wide 3 Tryd.f3 rfl rfl rfl rfl rfl rfl rfl ⟨rfl, rfl, rfl, rfl, rfl⟩ rfl rfl rfl rfl rfl (by kernel_rfl) Tryd.func3 (by kernel_rfl)
    (of_decide_eq_true (by kernel_rfl)) (by unfold Func.isWrapper; first | (rw [if_pos (by decide +kernel)]; kernel_rfl) | (rw [if_neg (by decide +kernel)]; exact ⟨rfl, rfl⟩))
    (fun os started H enc _ => inflateStored_lifted os started H enc)


theorem inflateStored_proved : Rows.InflateStoredCardSaid :=
  Claim7.holds_tied_plain_at .later [] [.handle] true (true, "12487687b0f2a4e326227b334f4ab789487ca98c6e08befe4bc67b2096b1f006") true
    inflateStored_over (fun _ h => by cases h) (by kernel_rfl) (fun _ h => by cases h) inflateStored_row_tie rfl ⟨rfl, rfl⟩ (by kernel_rfl) rfl
    (fun f fn hf hfn => by
      obtain rfl : f = 3 := Option.some.inj ((show Tryd.prog.funcNamed "fairlead/fairleadlaw18.InflateStored" = some 3 by kernel_rfl).symm.trans hf) |>.symm
      obtain rfl : fn = Tryd.f3 := (Option.some.inj (Tryd.func3.symm.trans hfn)).symm
      exact ⟨by kernel_rfl, fun j t ht => by
        rw [Tryd.params3] at ht
        exact (match j, ht with
      | 0, ht => by obtain rfl : 22 = t := (by simpa using ht); kernel_rfl
      | 1, ht => by obtain rfl : 22 = t := (by simpa using ht); kernel_rfl
      | 2, ht => by obtain rfl : 5 = t := (by simpa using ht); kernel_rfl
      | j + 3, ht => by simp at ht)⟩)
    (by kernel_rfl)
#print axioms inflateStored_proved
end Go.Proofs.YtgmopcbfgcagaaaDoor
