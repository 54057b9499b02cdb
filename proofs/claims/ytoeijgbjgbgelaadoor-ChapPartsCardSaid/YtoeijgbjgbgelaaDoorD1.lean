/-
  DES, the program's: bits of bytes; bits put in an order.
-/
import Derived.Test.YtoeijgbjgbgelaaDoorVr
namespace Go.Proofs.YtoeijgbjgbgelaaDoor
open Go V

abbrev TB8d : TypeId := 23
def bit8 (c : UInt8) (j : Nat) : UInt8 := UInt8.ofNat (c.toNat / 2 ^ (7 - j) % 2)
def bitsB (c : UInt8) : List UInt8 := (List.range 8).map (bit8 c)
def bitsP (l : List UInt8) : List UInt8 := l.flatMap bitsB
theorem bitsB_len (c : UInt8) : (bitsB c).length = 8 := by simp [bitsB]
theorem bitsP_len (l : List UInt8) : (bitsP l).length = 8 * l.length := by
  induction l with
  | nil => rfl
  | cons c l ih =>
    have : bitsP (c :: l) = bitsB c ++ bitsP l := by simp [bitsP]
    rw [this, List.length_append, bitsB_len, ih, List.length_cons]; omega
theorem bitsP_snoc (l : List UInt8) (k : Nat) (x : UInt8) (h : l[k]? = some x) : bitsP (l.take (k + 1)) = bitsP (l.take k) ++ bitsB x := by
  rw [List.take_add_one, h]; simp [bitsP]
theorem bitsB_snoc (c : UInt8) (j : Nat) (h : j < 8) : (bitsB c).take (j + 1) = (bitsB c).take j ++ [bit8 c j] := by
  have : (bitsB c)[j]? = some (bit8 c j) := by unfold bitsB; rw [List.getElem?_map, List.getElem?_range h]; rfl
  rw [List.take_add_one, this]; rfl
theorem VRes.oddN {N : Nat} {a b : Int} {K : Value → Prop} (ha : a = (N : Int)) (hb : b = 1) (hN : N < 256) (hK : K (vb (UInt8.ofNat (N % 2)))) :
    VRes (.int .u8 (IntKind.wrap .u8 ((BitVec.ofInt (IntKind.bits .u8) a &&& BitVec.ofInt (IntKind.bits .u8) b).toNat))) K := by
  have hN8 : (UInt8.ofNat N).toNat = N := by
    have : (UInt8.ofNat N).toNat = N % 256 := by simp
    omega
  refine VRes.odd8 (x := UInt8.ofNat N) (by rw [ha, hN8]) hb ?_
  rw [hN8]
  have e : (.int .u8 ((N % 2 : Nat) : Int) : Value) = vb (UInt8.ofNat (N % 2)) := by
    unfold vb
    have h1 : (UInt8.ofNat (N % 2)).toNat = N % 2 % 256 := by simp
    have h2 : (UInt8.ofNat (N % 2)).toNat = N % 2 := by omega
    rw [h2]
  rw [e]; exact hK
theorem appBd {w0 w : World} {ty : TypeId} {K : Value → World → Prop} {A : Option Addr} {n c : Nat} {xs : List UInt8} {B : Option Addr} {m d : Nat} {ys : List UInt8}
    (h0 : Keep No w0 w) (hown : Own w w0.heap.size T8 1 A n c (xs.map vb)) (hsrc : Sl w 1 B m (ys.map vb)) (hlen : n + m ≤ 1000000)
    (hK : ∀ A' c' w', Own w' w0.heap.size T8 1 A' (n + m) c' ((xs ++ ys).map vb) → Keep No w0 w' → Keep (ownS A) w w' → K (.slice A' (n + m) c') w') :
    VApp Tryd.prog w #[TB8d, TB8d] ty (.slice A n c) (.slice B m d) K :=
  VApp.own tt_ok (it := ty23) (ei := ty5) rfl rfl rfl (size := 1) rfl rfl (by omega) hown hsrc (one8 ys) (by show (n + m) * 1 ≤ _; omega) (by omega) h0.size
    fun A' c' w' h1 h2 _ => hK A' c' w' (by rw [List.map_append]; exact h1) (h0.own hown h2) h2

theorem bitsOf_ok (w : World) {A : Option Addr} {n c : Nat} {l : List UInt8} (hs : Sl w 1 A n (l.map vb)) (hn : n ≤ 1000) :
    VC Tryd.prog 34 [.slice A n c] w (fun v w' => (∃ A' c', v = .slice A' (8 * n) c' ∧ Own w' w.heap.size T8 1 A' (8 * n) c' ((bitsP l).map vb)) ∧ Keep No w w') := by
  have hl : l.length = n := by simpa using hs.len
  refine VC.of tt_ok Tryd.func34 rfl (by decide +kernel) (Nat.le_of_ble_eq_true rfl) ?_; (conv => whnf)
  refine VLoop.by_ tt_ok (S := Nat × Option Addr × Nat) (fun | (k, Al, cl) => [(3, .slice Al (8 * k) cl), (7, .slice A n c), (8, .int .i64 n), (9, .int .i64 k)])
    (fun | (k, Al, cl) => fun w' => k ≤ n ∧ Own w' w.heap.size T8 1 Al (8 * k) cl ((bitsP (l.take k)).map vb) ∧ Keep No w w') (fun | (k, _) => n - k)
    (0, none, 0) ⟨rfl, rfl, rfl, rfl, trivial⟩ ⟨by omega, Own.nil _ _ _ _, Keep.refl _ _⟩ ?_
  rintro ⟨k, Al, cl⟩ w' ⟨hk, hown, kk⟩
  (conv => whnf)
  refine VCmp.mk (fun h => ?_) (fun h => ?_) <;> (conv => whnf)
  rotate_left 1
  · obtain rfl : k = n := by omega
    rw [List.take_of_length_le (by omega)] at hown
    exact ⟨⟨Al, cl, rfl, hown⟩, kk⟩
  obtain ⟨x, hx⟩ : ∃ x, l[k]? = some x := ⟨_, List.getElem?_eq_getElem (by omega)⟩
  obtain ⟨b, o, hA, hc⟩ := hs.at_ (by omega)
  have e0 := kk.cell (hc k (vb x) (by rw [List.getElem?_map, hx]; rfl)) id
  refine VIdx.one k rfl (by omega) hA ?_
  (conv => whnf)
  refine VLoad.by_ e0 ?_
  (conv => whnf)
  have hx8 := x.toNat_lt
  refine VLoop.by_ tt_ok (S := Nat × Option Addr × Nat) (fun | (j, Al, cl) => [(3, .slice Al (8 * k + j) cl), (5, vb x), (6, .int .i64 (7 - (j : Int))), (7, .slice A n c), (8, .int .i64 n), (9, .int .i64 k)])
    (fun | (j, Al, cl) => fun w' => j ≤ 8 ∧ Own w' w.heap.size T8 1 Al (8 * k + j) cl ((bitsP (l.take k) ++ (bitsB x).take j).map vb) ∧ Keep No w w') (fun | (j, _) => 8 - j)
    (0, Al, cl) ⟨rfl, rfl, rfl, rfl, rfl, rfl, trivial⟩ ⟨by omega, by simpa using hown, kk⟩ ?_
  rintro ⟨j, Aj, cj⟩ wj ⟨hj, hownj, kj⟩
  (conv => whnf)
  refine VCmp.mk (fun h => ?_) (fun h => ?_) <;> (conv => whnf)
  rotate_left 1
  · obtain rfl : j = 8 := by omega
    rw [show (bitsB x).take 8 = bitsB x from List.take_of_length_le (by rw [bitsB_len]; omega), ← bitsP_snoc l k x hx] at hownj
    refine VRes.i64 (by omega) ?_; (conv => whnf)
    exact ⟨(k + 1, Aj, cj), ⟨rfl, rfl, rfl, rfl, trivial⟩, ⟨by omega, hownj, kj⟩, by dsimp only; omega⟩
  refine VReq.mk (by omega) ?_
  refine VRes.shrN (N := x.toNat) (s := 7 - j) rfl (by omega) (by show 7 - j ≤ 8; omega) ?_
  (conv => whnf)
  refine VRes.oddN (N := x.toNat / 2 ^ (7 - j)) rfl rfl (Nat.lt_of_le_of_lt (Nat.div_le_self _ _) hx8) ?_
  (conv => whnf)
  refine VFill.by_ rfl ?_; (conv => whnf)
  refine ⟨fun w2 hb2 hk2 => ?_⟩; have hb2_lt := Blk.lt hb2; have hk2_sz := hk2.size; (conv => whnf)
  have kj := kj.keepNo hk2; have hownj := hownj.keepNo hk2
  refine appBd kj hownj (ys := [bit8 x j]) (Sl.ofBlk (n := 1) (size := 1) hb2 rfl) (by omega) ?_
  intro A4 c4 w4 ho4 hk4 _
  (conv => whnf)
  refine VRes.i64 (by omega) ?_; (conv => whnf)
  exact ⟨(j + 1, A4, c4), ⟨rfl, rfl, by rw [show (7 : Int) - ((j + 1 : Nat) : Int) = 7 - (j : Int) - 1 from by omega]; rfl, rfl, rfl, rfl, trivial⟩, ⟨by omega, by rw [bitsB_snoc x j (by omega), ← List.append_assoc]; exact ho4, hk4⟩, by dsimp only; omega⟩

/-- What an order answers, in any world that comes of w. -/
def OrdV (w : World) (f : FuncId) (fs cs : List Value) (n : Nat) (o : Nat → Nat) : Prop :=
  ∀ w', Keep No w w' → ∀ i, i < n → VC Tryd.prog f (fs ++ [.int .i64 (i : Int)] ++ cs) w' (fun v w'' => v = .int .i64 (o i : Nat) ∧ Keep No w' w'')
def putP (l : List UInt8) (o : Nat → Nat) (n : Nat) : List UInt8 := (List.range n).map fun i => l.getD (o i - 1) 0
theorem putP_len (l : List UInt8) (o : Nat → Nat) (n : Nat) : (putP l o n).length = n := by simp [putP]
theorem putP_snoc (l : List UInt8) (o : Nat → Nat) (n : Nat) : putP l o (n + 1) = putP l o n ++ [l.getD (o n - 1) 0] := by
  unfold putP; rw [List.range_succ, List.map_append]; rfl

theorem put_ok (w : World) {A : Option Addr} {m c n : Nat} {l : List UInt8} {f : FuncId} {fs cs : Array Value} {o : Nat → Nat} (hs : Sl w 1 A m (l.map vb)) (ho : OrdV w f fs.toList cs.toList n o) (hn : n ≤ 1000) (hm : m ≤ 1000) (hr : ∀ i, i < n → 1 ≤ o i ∧ o i ≤ m) :
    VC Tryd.prog 33 [.slice A m c, .func (.func f) fs cs, .int .i64 n] w (fun v w' => (∃ A' c', v = .slice A' n c' ∧ Own w' w.heap.size T8 1 A' n c' ((putP l o n).map vb)) ∧ Keep No w w') := by
  have hl : l.length = m := by simpa using hs.len
  refine VC.of tt_ok Tryd.func33 rfl (by decide +kernel) (Nat.le_of_ble_eq_true rfl) ?_; (conv => whnf)
  refine VLoop.by_ tt_ok (S := Nat × Option Addr × Nat) (fun | (k, Al, cl) => [(0, .slice A m c), (1, .func (.func f) fs cs), (7, .slice Al k cl), (9, .int .i64 n), (10, .int .i64 k)])
    (fun | (k, Al, cl) => fun w' => k ≤ n ∧ Own w' w.heap.size T8 1 Al k cl ((putP l o k).map vb) ∧ Keep No w w') (fun | (k, _) => n - k)
    (0, none, 0) ⟨rfl, rfl, rfl, rfl, rfl, trivial⟩ ⟨by omega, Own.nil _ _ _ _, Keep.refl _ _⟩ ?_
  rintro ⟨k, Al, cl⟩ w' ⟨hk, hown, kk⟩
  (conv => whnf)
  refine VCmp.mk (fun h => ?_) (fun h => ?_) <;> (conv => whnf)
  rotate_left 1
  · obtain rfl : k = n := by omega
    exact ⟨⟨Al, cl, rfl, hown⟩, kk⟩
  refine (ho w' kk k (by omega)).mono ?_
  rintro v w2 ⟨rfl, hk2⟩
  have kk := kk.keepNo hk2; have hown := hown.keepNo hk2
  have hrk := hr k (by omega)
  (conv => whnf)
  refine VRes.i64 (by omega) ?_; (conv => whnf)
  refine VIdx.sl (hs.keepNo kk) (o k - 1) (by omega) (by omega) (fun b_ o_ hA_ hc_ => ?_)
  (conv => whnf)
  refine VLoad.by_ hc_ ?_
  (conv => whnf)
  refine VFill.by_ rfl ?_; (conv => whnf)
  refine ⟨fun w3 hb3 hk3 => ?_⟩; have hb3_lt := Blk.lt hb3; have hk3_sz := hk3.size; (conv => whnf)
  have kk := kk.keepNo hk3; have hown := hown.keepNo hk3
  refine appBd kk hown (ys := [l.getD (o k - 1) 0]) (Sl.ofBlk (n := 1) (size := 1) hb3 rfl) (by omega) ?_
  intro A4 c4 w4 ho4 hk4 _
  (conv => whnf)
  refine VRes.i64 (by omega) ?_; (conv => whnf)
  exact ⟨(k + 1, A4, c4), ⟨rfl, rfl, rfl, rfl, rfl, trivial⟩, ⟨by omega, by rw [putP_snoc]; exact ho4, hk4⟩, by dsimp only; omega⟩
end Go.Proofs.YtoeijgbjgbgelaaDoor
