/-
  Package md4: each function computes the plain one.
-/
import Derived.Test.YtoeijgbjgbgelaaDoorM0
namespace Go.Proofs.YtoeijgbjgbgelaaDoor.Md
open Go V

theorem VIdxA.mul {ad : Addr} {n size : Nat} {i : Int} {K : Addr → Prop} (j : Nat) (hj : (j : Int) = i) (hn : j < n) {b o : Nat} (hA : ad = ⟨b, o, none⟩) (hK : K ⟨b, o + j * size, none⟩) : VIdxA ad n i size K := by
  subst hA
  exact ⟨⟨j, rfl, hj, hn, hK⟩⟩
theorem ones {L : List Value} (h : L.all (fun u => u.oneCell') = true) : ∀ u ∈ L, u.oneCell' = true := fun u hu => List.all_eq_true.mp h u hu
abbrev TM : TypeId := 66
abbrev TX : TypeId := 86
def M4.cells (s : M4) : List Value := [vw s.a, vw s.b, vw s.c, vw s.d]

theorem padded_ok (w : World) {A : Option Addr} {n c : Nat} {l : List UInt8} (hs : Sl w 1 A n (l.map vb)) (hn : n ≤ 1000000000) :
    VC Tryd.prog 27 [.slice A n c] w (fun v w' => ∃ A' c', v = .slice A' (mdPad l).length c' ∧ Own w' w.heap.size T8 1 A' (mdPad l).length c' ((mdPad l).map vb) ∧ Keep No w w') := by
  have hl : l.length = n := by simpa using hs.len
  have hpz := padZ_lt n
  refine VC.of tt_ok Tryd.func27 rfl (by decide +kernel) (Nat.le_of_ble_eq_true rfl) ?_; (conv => whnf)
  refine app8 (w0 := w) (Keep.refl _ _) (xs := []) (Own.nil _ _ _ _) hs (by omega) ?_
  intro A1 c1 w1 ho1 hk1 _ _
  (conv => whnf)
  refine VFill.by_ rfl ?_
  (conv => whnf)
  refine ⟨fun w2 hb2 hk2 => ?_⟩
  (conv => whnf)
  refine app8one (w0 := w) (x := 0x80) (hk1.trans hk2) (ho1.keepNo hk2) hb2 rfl (by omega) ?_
  intro A3 c3 w3 ho3 hk3 _ _
  (conv => whnf)
  refine VLoop.by_ tt_ok (S := Nat × Option Addr × Nat) (fun | (k, A', c') => [(0, .slice A n c), (3, .slice A' (n + 1 + k) c')])
    (fun | (k, A', c') => fun w' => k ≤ padZ n ∧ Own w' w.heap.size T8 1 A' (n + 1 + k) c' ((l ++ [0x80] ++ List.replicate k 0).map vb) ∧ Keep No w w') (fun | (k, _) => padZ n - k)
    (0, A3, c3) ⟨rfl, by show some (Value.slice A3 (0 + n + 1) c3) = _; rw [Nat.zero_add], trivial⟩ ⟨Nat.zero_le _, by simpa using ho3, hk3⟩ ?_
  rintro ⟨k, A4, c4⟩ w4 ⟨hk, ho4, hk4⟩
  (conv => whnf)
  refine VReq.mk (by omega) ?_
  refine VRes.to (congrArg (Value.int .i64) (show (((n + 1 + k : Nat) : Int)).tmod 64 = (((n + 1 + k) % 64 : Nat) : Int) from rfl)) ?_
  (conv => whnf)
  refine VCmp.mk (fun h => ?_) (fun h => ?_) <;> (conv => whnf)
  · have hlt : k < padZ n := by
      rcases Nat.lt_or_ge k (padZ n) with h1 | h1
      · exact h1
      · have : k = padZ n := by omega
        subst this
        have := padZ_spec n
        omega
    refine VFill.by_ rfl ?_
    (conv => whnf)
    refine ⟨fun w5 hb5 hk5 => ?_⟩
    (conv => whnf)
    refine app8one (w0 := w) (x := 0) (hk4.trans hk5) (ho4.keepNo hk5) hb5 rfl (by omega) ?_
    intro A6 c6 w6 ho6 hk6 _ _
    (conv => whnf)
    refine ⟨(k + 1, A6, c6), ⟨rfl, rfl, trivial⟩, ⟨by omega, ?_, hk6⟩, by dsimp only; omega⟩
    have : l ++ [0x80] ++ List.replicate (k + 1) 0 = (l ++ [0x80] ++ List.replicate k 0) ++ [(0 : UInt8)] := by
      rw [List.replicate_succ', ← List.append_assoc]
    rw [this]
    exact ho6
  · have hke : k = padZ n := by
      rcases Nat.lt_or_ge k (padZ n) with h1 | h1
      · exact absurd (padZ_least n k h1) (by omega)
      · omega
    subst hke
    refine VRes.u64 (by omega) ?_
    (conv => whnf)
    refine VRes.u64 (by omega) ?_
    (conv => whnf)
    refine VLoop.by_ tt_ok (S := Nat × Option Addr × Nat) (fun | (k, A', c') => [(3, .slice A' (n + 1 + padZ n + k) c'), (4, .int .u64 ((n : Int) * 8)), (21, .int .i64 k)])
      (fun | (k, A', c') => fun w' => k ≤ 8 ∧ Own w' w.heap.size T8 1 A' (n + 1 + padZ n + k) c' ((l ++ [0x80] ++ List.replicate (padZ n) 0 ++ (List.range k).map (padByte n)).map vb) ∧ Keep No w w') (fun | (k, _) => 8 - k)
      (0, A4, c4) ⟨rfl, rfl, rfl, trivial⟩ ⟨Nat.zero_le _, by simpa using ho4, hk4⟩ ?_
    rintro ⟨k, A5, c5⟩ w5 ⟨hk8, ho5, hk5⟩
    (conv => whnf)
    refine VCmp.mk (fun h8 => ?_) (fun h8 => ?_) <;> (conv => whnf)
    · refine VRes.i64 (by omega) ?_
      (conv => whnf)
      refine VReq.mk (by omega) ?_
      (conv => whnf)
      refine VRes.shrN (N := n * 8) (s := 8 * k) (by omega) (by omega) (by show 8 * k ≤ 64; omega) ?_
      (conv => whnf)
      refine VRes.byte rfl ?_
      (conv => whnf)
      refine VFill.by_ rfl ?_
      (conv => whnf)
      refine ⟨fun w6 hb6 hk6 => ?_⟩
      (conv => whnf)
      refine app8one (w0 := w) (x := padByte n k) (hk5.trans hk6) (ho5.keepNo hk6) hb6 rfl (by omega) ?_
      intro A7 c7 w7 ho7 hk7 _ _
      (conv => whnf)
      refine VRes.i64 (by omega) ?_
      (conv => whnf)
      refine ⟨(k + 1, A7, c7), ⟨rfl, rfl, rfl, trivial⟩, ⟨by omega, ?_, hk7⟩, by dsimp only; omega⟩
      have e : (List.range (k + 1)).map (padByte n) = (List.range k).map (padByte n) ++ [padByte n k] := by rw [List.range_succ, List.map_append]; rfl
      rw [e, ← List.append_assoc]
      exact ho7
    · have hk88 : k = 8 := by omega
      subst hk88
      have e : mdPad l = l ++ [0x80] ++ List.replicate (padZ n) 0 ++ (List.range 8).map (padByte n) := by unfold mdPad; rw [hl]
      have hlen : (mdPad l).length = n + 1 + padZ n + 8 := by rw [mdPad_length, hl]; omega
      rw [← e, ← hlen] at ho5
      rw [hlen]
      rw [hlen] at ho5
      exact ⟨A5, c5, rfl, ho5, hk5⟩

theorem order_ok (w : World) (n k : Nat) (hn : n < 3) (hk : k < 16) :
    VC Tryd.prog 45 [.int .i64 n, .int .i64 k] w (fun v w' => v = .int .i64 (mdOrd.getD (16 * n + k) 0 : Nat) ∧ w = w') := by
  have key : ∀ (n : Fin 3) (k : Fin 16), VC Tryd.prog 45 [.int .i64 n.val, .int .i64 k.val] w (fun v w' => v = .int .i64 (mdOrd.getD (16 * n.val + k.val) 0 : Nat) ∧ w = w') := by
    intro n k
    match n with
    | 0 =>
      refine VC.of tt_ok Tryd.func45 rfl (by decide +kernel) (Nat.le_of_ble_eq_true rfl) ?_; (conv => whnf)
      refine VCmp.mk (fun h => absurd h (by decide)) (fun _ => ?_)
      (conv => whnf)
      refine VCmp.mk (fun h => absurd h (by decide)) (fun _ => ?_)
      (conv => whnf)
      have h : ∀ k : Fin 16, (k.val : Int) = ((mdOrd.getD (16 * 0 + k.val) 0 : Nat) : Int) := by decide
      exact ⟨congrArg (Value.int .i64) (h k), rfl⟩
    | 1 =>
      refine VC.of tt_ok Tryd.func45 rfl (by decide +kernel) (Nat.le_of_ble_eq_true rfl) ?_; (conv => whnf)
      refine VCmp.mk (fun _ => ?_) (fun h => absurd rfl h)
      (conv => whnf)
      refine VReq.mk (by omega) ?_
      refine VRes.to (congrArg (Value.int .i64) (show ((k.val : Int)).tmod 4 = ((k.val % 4 : Nat) : Int) from rfl)) ?_
      (conv => whnf)
      refine VRes.i64 (by omega) ?_
      (conv => whnf)
      refine VReq.mk (by omega) ?_
      refine VRes.to (congrArg (Value.int .i64) (show IntKind.wrap .i64 ((k.val : Int).tdiv 4) = ((k.val / 4 : Nat) : Int) from wrap_i64 (by have : ((k.val : Int)).tdiv 4 = ((k.val / 4 : Nat) : Int) := rfl; rw [this]; omega))) ?_
      (conv => whnf)
      refine VRes.i64 (by omega) ?_
      (conv => whnf)
      have h : ∀ k : Fin 16, ((k.val % 4 : Nat) : Int) * 4 + ((k.val / 4 : Nat) : Int) = ((mdOrd.getD (16 * 1 + k.val) 0 : Nat) : Int) := by decide
      exact ⟨congrArg (Value.int .i64) (h k), rfl⟩
    | 2 =>
      refine VC.of tt_ok Tryd.func45 rfl (by decide +kernel) (Nat.le_of_ble_eq_true rfl) ?_; (conv => whnf)
      refine VCmp.mk (fun h => absurd h (by decide)) (fun _ => ?_)
      (conv => whnf)
      refine VCmp.mk (fun _ => ?_) (fun h => absurd rfl h)
      (conv => whnf)
      refine ⟨?_⟩
      (conv => whnf)
      refine VReq.mk (by omega) ?_
      refine ⟨?_⟩
      (conv => whnf)
      refine ⟨?_⟩
      (conv => whnf)
      refine VReq.mk (by omega) ?_
      refine ⟨?_⟩
      (conv => whnf)
      refine ⟨?_⟩
      (conv => whnf)
      refine ⟨?_⟩
      (conv => whnf)
      refine VReq.mk (by omega) ?_
      refine ⟨?_⟩
      (conv => whnf)
      refine ⟨?_⟩
      (conv => whnf)
      refine ⟨?_⟩
      (conv => whnf)
      refine VReq.mk (by omega) ?_
      refine ⟨?_⟩
      (conv => whnf)
      refine ⟨?_⟩
      (conv => whnf)
      refine ⟨congrArg (Value.int .i64) ?_, rfl⟩
      revert k
      decide +kernel
  exact key ⟨n, hn⟩ ⟨k, hk⟩

theorem f0_ok (w : World) (x y z : BitVec 32) : VC Tryd.prog 57 [vw x, vw y, vw z] w (fun v w' => v = vw (mdF 0 x y z) ∧ w = w') := by
  refine VC.of tt_ok Tryd.func57 rfl (by decide +kernel) (Nat.le_of_ble_eq_true rfl) ?_; (conv => whnf)
  refine VRes.and32 rfl ?_
  (conv => whnf)
  refine VRes.not32 rfl ?_
  (conv => whnf)
  refine VRes.and32 rfl ?_
  (conv => whnf)
  refine VRes.or32 rfl rfl ?_
  (conv => whnf)
  exact ⟨rfl, rfl⟩
theorem f1_ok (w : World) (x y z : BitVec 32) : VC Tryd.prog 58 [vw x, vw y, vw z] w (fun v w' => v = vw (mdF 1 x y z) ∧ w = w') := by
  refine VC.of tt_ok Tryd.func58 rfl (by decide +kernel) (Nat.le_of_ble_eq_true rfl) ?_; (conv => whnf)
  refine VRes.and32 rfl ?_
  (conv => whnf)
  refine VRes.and32 rfl ?_
  (conv => whnf)
  refine VRes.or32 rfl rfl ?_
  (conv => whnf)
  refine VRes.and32 rfl ?_
  (conv => whnf)
  refine VRes.or32 rfl rfl ?_
  (conv => whnf)
  exact ⟨rfl, rfl⟩
theorem f2_ok (w : World) (x y z : BitVec 32) : VC Tryd.prog 59 [vw x, vw y, vw z] w (fun v w' => v = vw (mdF 2 x y z) ∧ w = w') := by
  refine VC.of tt_ok Tryd.func59 rfl (by decide +kernel) (Nat.le_of_ble_eq_true rfl) ?_; (conv => whnf)
  refine VRes.xor32 rfl rfl ?_
  (conv => whnf)
  refine VRes.xor32 rfl rfl ?_
  (conv => whnf)
  exact ⟨rfl, rfl⟩

/-- The function of a round, as a value. -/
def fnOf (n : Nat) : Nat :=
  match n with
  | 0 => 57
  | 1 => 58
  | _ => 59
theorem fn_ok (w : World) (n : Nat) (hn : n < 3) (x y z : BitVec 32) : VC Tryd.prog (fnOf n) [vw x, vw y, vw z] w (fun v w' => v = vw (mdF n x y z) ∧ w = w') := by
  match n, hn with
  | 0, _ => exact f0_ok w x y z
  | 1, _ => exact f1_ok w x y z
  | 2, _ => exact f2_ok w x y z

theorem round_ok (w : World) (n : Nat) (hn : n < 3) : VC Tryd.prog 43 [.int .i64 n] w (fun v w' => v = .tuple #[.func (.func (fnOf n)) #[] #[], vw (mdT n)] ∧ w = w') := by
  match n, hn with
  | 0, _ =>
    refine VC.of tt_ok Tryd.func43 rfl (by decide +kernel) (Nat.le_of_ble_eq_true rfl) ?_; (conv => whnf)
    refine VCmp.mk (fun _ => ?_) (fun h => absurd rfl h)
    (conv => whnf)
    exact ⟨rfl, rfl⟩
  | 1, _ =>
    refine VC.of tt_ok Tryd.func43 rfl (by decide +kernel) (Nat.le_of_ble_eq_true rfl) ?_; (conv => whnf)
    refine VCmp.mk (fun h => absurd h (by decide)) (fun _ => ?_)
    (conv => whnf)
    refine VCmp.mk (fun _ => ?_) (fun h => absurd rfl h)
    (conv => whnf)
    exact ⟨rfl, rfl⟩
  | 2, _ =>
    refine VC.of tt_ok Tryd.func43 rfl (by decide +kernel) (Nat.le_of_ble_eq_true rfl) ?_; (conv => whnf)
    refine VCmp.mk (fun h => absurd h (by decide)) (fun _ => ?_)
    (conv => whnf)
    refine VCmp.mk (fun h => absurd h (by decide)) (fun _ => ?_)
    (conv => whnf)
    exact ⟨rfl, rfl⟩

def mdTurnV : List Value := mdTurn.map (fun n => .int .i64 (n : Nat))
theorem turns_ok (w : World) (n k : Nat) (hn : n < 3) (hk : k < 16) : VC Tryd.prog 46 [.int .i64 n, .int .i64 k] w (fun v w' => v = .int .i64 (mdTurn.getD (n * 4 + k % 4) 0 : Nat) ∧ Keep No w w') := by
  refine VC.of tt_ok Tryd.func46 rfl (by decide +kernel) (Nat.le_of_ble_eq_true rfl) ?_; (conv => whnf)
  refine VFill.by_ rfl ?_
  (conv => whnf)
  refine VFill.by_ rfl ?_
  (conv => whnf)
  refine VFill.by_ rfl ?_
  (conv => whnf)
  refine VFill.by_ rfl ?_
  (conv => whnf)
  refine ⟨fun w1 hb1 hk1 => ?_⟩
  (conv => whnf)
  refine VReq.mk ⟨rfl, ones (by kernel_rfl)⟩ ?_
  refine VStore.all hb1 (by kernel_rfl) ?_
  intro w2 hb2 hk2 _
  have hk2' : Keep No w w2 := hk1.toNo hk2 (fun i hi => by omega)
  change Blk w2 _ _ mdTurnV at hb2
  (conv => whnf)
  refine VReq.mk (by omega) ?_
  refine VRes.to (congrArg (Value.int .i64) (show ((k : Int)).tmod 4 = ((k % 4 : Nat) : Int) from rfl)) ?_
  (conv => whnf)
  refine VIdxA.mul n rfl (by omega) rfl ?_
  (conv => whnf)
  refine VIdxA.one (k % 4) rfl (by omega) rfl ?_
  (conv => whnf)
  refine VLoad.by_ (v := .int .i64 (mdTurn.getD (n * 4 + k % 4) 0 : Nat)) (by
    rw [hb2.cell]
    have hj : n * 4 + k % 4 < mdTurn.length := by show _ < 12; omega
    show mdTurnV[0 + n * 4 + k % 4]? = _
    unfold mdTurnV
    rw [Nat.zero_add, List.getElem?_map, List.getElem?_eq_getElem hj, List.getD_eq_getElem?_getD, List.getElem?_eq_getElem hj]
    rfl) ?_
  (conv => whnf)
  exact ⟨rfl, hk2'⟩
theorem step_ok (w : World) {b : Nat} (s : M4) (n : Nat) (hn : n < 3) (x t : BitVec 32) (turn : Nat) (h0 : 0 < turn) (h1 : turn < 32) (hb : Blk w b TM s.cells) (ht : t = mdT n) :
    VC Tryd.prog 44 [.pointer (some ⟨b, 0, none⟩), .func (.func (fnOf n)) #[] #[], vw x, vw t, .int .i64 turn] w (fun v w' => v = .tuple #[] ∧ Blk w' b TM (mdStep1 s n x turn).cells ∧ Keep (fun k => k = b) w w') := by
  subst ht
  unfold M4.cells at hb
  refine VC.of tt_ok Tryd.func44 rfl (by decide +kernel) (Nat.le_of_ble_eq_true rfl) ?_; (conv => whnf)
  refine VDraw.by_ tt_ok rfl (.take 0 (.take 1 (.take 2 (.take 3 (.take 4 (.take 5 (.take 6 (.take 7 (.take 8 (.take 9 (.take 10 (.take 11 (.take 12 (.take 13 (.take 14 (.take 15 (.take 16 (.take 19 (.take 21 (.take 23 (.one 17 (.take 18 (.take 20 (.take 22 (.one 24 (.take 25 .done)))))))))))))))))))))))))) (by decide +kernel) _ (fun x h1 h2 h3 h4 => Keep.ofHeap h1 h2 h3 h4) (fun wd hd kd => ?_)
  (conv => whnf)
  refine VIdxA.one 0 rfl (by omega) rfl ?_
  (conv => whnf)
  refine VLoad.keep (hb.cell 0) ?_
  (conv => whnf)
  refine VIdxA.one 1 rfl (by omega) rfl ?_
  (conv => whnf)
  refine VLoad.keep (hb.cell 1) ?_
  (conv => whnf)
  refine VIdxA.one 2 rfl (by omega) rfl ?_
  (conv => whnf)
  refine VLoad.keep (hb.cell 2) ?_
  (conv => whnf)
  refine VIdxA.one 3 rfl (by omega) rfl ?_
  (conv => whnf)
  refine VLoad.keep (hb.cell 3) ?_
  (conv => whnf)
  refine (fn_ok wd n hn s.b s.c s.d).mono ?_
  rintro v w' ⟨rfl, rfl⟩
  (conv => whnf)
  refine VOwe.same (by first | exact kd | exact Keep.refl _ _) ?_
  (conv => whnf)
  refine VRes.add32 rfl rfl ?_
  (conv => whnf)
  refine VRes.add32 rfl rfl ?_
  (conv => whnf)
  refine VRes.add32 rfl rfl ?_
  (conv => whnf)
  refine (rotl_ok wd _ turn h0 h1).mono ?_
  rintro v w' ⟨rfl, rfl⟩
  (conv => whnf)
  refine VOwe.same (by first | exact kd | exact Keep.refl _ _) ?_
  (conv => whnf)
  have hb1 := Blk.keep hb kd id
  have kd0 := kd
  have hlt := Blk.lt hb1
  refine VDraw.by_ tt_ok rfl (.take 0 (.take 1 (.take 2 (.take 3 (.take 4 (.take 5 (.take 6 (.take 8 (.take 9 (.take 10 (.take 11 (.take 13 (.take 14 (.take 15 (.take 16 (.take 17 (.take 20 (.take 23 (.take 26 (.two 7 (.one 12 (.take 18 (.one 19 (.take 21 (.one 22 (.take 24 (.one 25 (.take 27 (.one 28 .done))))))))) 12 (.one 7 (.take 18 (.one 19 (.take 21 (.one 22 (.take 24 (.one 25 (.take 27 (.one 28 .done))))))))))))))))))))))))))))) (by decide +kernel) (fun x => x.cell? ⟨b, 2, none⟩ = some (vw s.c)) (fun x h1 h2 h3 h4 => (Keep.ofHeap h1 h2 h3 h4).cell (hb1.cell 2) id) (fun wd _ kd => ?_)
  have hb2 := Blk.keep hb1 kd id
  (conv => whnf)
  refine VIdxA.one 3 rfl (by omega) rfl ?_
  (conv => whnf)
  refine VIdxA.one 1 rfl (by omega) rfl ?_
  (conv => whnf)
  refine VIdxA.one 2 rfl (by omega) rfl ?_
  (conv => whnf)
  refine VLoad.by_ (v := vw s.c) (fun x hx => hx) ?_
  (conv => whnf)
  refine ⟨?_, ?_⟩
  · refine VLoad.by_ (hb2.cell 3) ?_
    (conv => whnf)
    refine VLoad.by_ (hb2.cell 1) ?_
    (conv => whnf)
    refine VIdxA.one 0 rfl (by omega) rfl ?_
    (conv => whnf)
    refine VStore.one hb2 (Nat.le_of_ble_eq_true rfl) (fun w3 hb3 hk3 _ => ?_)
    (conv => whnf)
    refine VOwe.same (hb3.cell 2) ?_
    (conv => whnf)
    refine VIdxA.one 1 rfl (by omega) rfl ?_
    (conv => whnf)
    refine VStore.one hb3 (Nat.le_of_ble_eq_true rfl) (fun w4 hb4 hk4 _ => ?_)
    (conv => whnf)
    refine VOwe.same (hb4.cell 2) ?_
    (conv => whnf)
    refine VIdxA.one 2 rfl (by omega) rfl ?_
    (conv => whnf)
    refine VStore.one hb4 (Nat.le_of_ble_eq_true rfl) (fun w5 hb5 hk5 _ => ?_)
    (conv => whnf)
    refine VOwe.to (fun _ => True) (fun h => absurd h (by decide +kernel)) trivial ?_
    (conv => whnf)
    refine VIdxA.one 3 rfl (by omega) rfl ?_
    (conv => whnf)
    refine VStore.one hb5 (Nat.le_of_ble_eq_true rfl) (fun w6 hb6 hk6 _ => ?_)
    (conv => whnf)
    refine VOwe.to (fun _ => True) (fun h => absurd h (by decide +kernel)) trivial ?_
    (conv => whnf)
    exact ⟨rfl, hb6, (((((kd0.trans kd).mono (fun _ _ h => h.elim)).trans hk3).trans hk4).trans hk5).trans hk6⟩
  · refine VLoad.by_ (hb2.cell 1) ?_
    (conv => whnf)
    refine VLoad.by_ (hb2.cell 3) ?_
    (conv => whnf)
    refine VIdxA.one 0 rfl (by omega) rfl ?_
    (conv => whnf)
    refine VStore.one hb2 (Nat.le_of_ble_eq_true rfl) (fun w3 hb3 hk3 _ => ?_)
    (conv => whnf)
    refine VOwe.same (hb3.cell 2) ?_
    (conv => whnf)
    refine VIdxA.one 1 rfl (by omega) rfl ?_
    (conv => whnf)
    refine VStore.one hb3 (Nat.le_of_ble_eq_true rfl) (fun w4 hb4 hk4 _ => ?_)
    (conv => whnf)
    refine VOwe.same (hb4.cell 2) ?_
    (conv => whnf)
    refine VIdxA.one 2 rfl (by omega) rfl ?_
    (conv => whnf)
    refine VStore.one hb4 (Nat.le_of_ble_eq_true rfl) (fun w5 hb5 hk5 _ => ?_)
    (conv => whnf)
    refine VOwe.to (fun _ => True) (fun h => absurd h (by decide +kernel)) trivial ?_
    (conv => whnf)
    refine VIdxA.one 3 rfl (by omega) rfl ?_
    (conv => whnf)
    refine VStore.one hb5 (Nat.le_of_ble_eq_true rfl) (fun w6 hb6 hk6 _ => ?_)
    (conv => whnf)
    refine VOwe.to (fun _ => True) (fun h => absurd h (by decide +kernel)) trivial ?_
    (conv => whnf)
    exact ⟨rfl, hb6, (((((kd0.trans kd).mono (fun _ _ h => h.elim)).trans hk3).trans hk4).trans hk5).trans hk6⟩
end Go.Proofs.YtoeijgbjgbgelaaDoor.Md
