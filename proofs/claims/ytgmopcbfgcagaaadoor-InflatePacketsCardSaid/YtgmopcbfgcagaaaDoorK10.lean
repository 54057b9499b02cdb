/-
  The document's inflate: a stored block.
-/
import Derived.Test.YtgmopcbfgcagaaaDoorK9
namespace Go.Proofs.YtgmopcbfgcagaaaDoor
open Go V

theorem numL_add' (l : List UInt8) (at_ j k : Nat) : numL l at_ (j + k) = numL l at_ j + numL l (at_ + j) k * 2 ^ j := by
  induction k with
  | zero => simp [numL]
  | succ k ih =>
    show numL l at_ (j + k) + bitL l (at_ + (j + k)) * 2 ^ (j + k) = numL l at_ j + (numL l (at_ + j) k + bitL l (at_ + j + k) * 2 ^ k) * 2 ^ j
    rw [ih, Nat.add_mul, ← Nat.add_assoc, Nat.add_assoc at_ j k, Nat.pow_add]
    have : bitL l (at_ + (j + k)) * (2 ^ j * 2 ^ k) = bitL l (at_ + (j + k)) * 2 ^ k * 2 ^ j := by rw [Nat.mul_comm (2 ^ j), Nat.mul_assoc]
    rw [this, Nat.add_assoc]
theorem bitL_in (l : List UInt8) (p i : Nat) (hi : i < 8) : bitL l (8 * p + i) = (l.getD p 0).toNat / 2 ^ i % 2 := by
  unfold bitL
  rw [show (8 * p + i) / 8 = p from by omega, show (8 * p + i) % 8 = i from by omega]
theorem numL_8' (l : List UInt8) (p : Nat) : numL l (8 * p) 8 = (l.getD p 0).toNat := by
  have e : numL l (8 * p) 8 = ((((((((0 + bitL l (8 * p + 0) * 2 ^ 0) + bitL l (8 * p + 1) * 2 ^ 1) + bitL l (8 * p + 2) * 2 ^ 2) + bitL l (8 * p + 3) * 2 ^ 3) + bitL l (8 * p + 4) * 2 ^ 4) + bitL l (8 * p + 5) * 2 ^ 5) + bitL l (8 * p + 6) * 2 ^ 6) + bitL l (8 * p + 7) * 2 ^ 7) := rfl
  rw [e, bitL_in l p 0 (by omega), bitL_in l p 1 (by omega), bitL_in l p 2 (by omega), bitL_in l p 3 (by omega), bitL_in l p 4 (by omega), bitL_in l p 5 (by omega), bitL_in l p 6 (by omega), bitL_in l p 7 (by omega)]
  have := (l.getD p 0).toNat_lt
  omega

theorem xor_ne {N M : Nat} : N ^^^ M = 65535 ↔ N = M ^^^ 65535 := by
  constructor
  · intro h
    rw [← h, Nat.xor_comm N M, ← Nat.xor_assoc, Nat.xor_self, Nat.zero_xor]
  · intro h
    rw [h, Nat.xor_comm M, Nat.xor_assoc, Nat.xor_self, Nat.xor_zero]
def plainS (s : IS) : Except Nat IS := match plainF s with | .error e => .error e | .ok (s', _) => .ok s'
/-- The bytes put out so far. -/
def stoS (s : IS) (p i : Nat) : IS := { s with at_ := 8 * (p + 4 + i), all := s.all ++ (s.l.take (p + 4 + i)).drop (p + 4) }
theorem stoS_next (s : IS) {p i : Nat} (h : p + 4 + i < s.l.length) : (stoS s p i).all ++ [UInt8.ofNat (numL s.l (8 * (p + 4 + i)) 8)] = (stoS s p (i + 1)).all := by
  have e : UInt8.ofNat (numL s.l (8 * (p + 4 + i)) 8) = s.l[p + 4 + i] := by
    rw [numL_8', List.getD_eq_getElem?_getD, List.getElem?_eq_getElem h]
    simp
  unfold stoS
  dsimp only
  rw [e, show p + 4 + (i + 1) = p + 4 + i + 1 from by omega, List.take_add_one, List.getElem?_eq_getElem h, List.append_assoc]
  congr 1
  rw [List.drop_append_of_le_length (by rw [List.length_take]; omega)]
  rfl
theorem stoS_len (s : IS) {p i : Nat} (h : p + 4 + i ≤ s.l.length) : (stoS s p i).all.length = s.all.length + i := by
  unfold stoS
  dsimp only
  rw [List.length_append, List.length_drop, List.length_take]
  omega

structure StV (base x bb : Nat) (Ab : Option Addr) (cb : Nat) (A : Option Addr) (F : Except Nat IS) (w w' : World) (s : IS) (p N : Nat) (nz : Int) (i : Nat) (Ai : Option Addr) (ci e : Nat) : Prop where
  ok : e = 0 → nz = (N : Int) ∧ i ≤ N ∧ p + 4 + i ≤ s.l.length ∧ s.all.length - s.from_ + i ≤ s.most ∧ RfV w' base x bb Ab cb Ai ci (stoS s p i) ∧ (∀ a, Ai = some a → ownS A a.block ∨ w.heap.size ≤ a.block) ∧
    F = (if p + 4 + N ≤ s.l.length then (if s.most < s.all.length - s.from_ + N then .error 3 else .ok (stoS s p N)) else if s.most < s.all.length - s.from_ + (s.l.length - (p + 4)) then .error 3 else .error 2)
  bad : e ≠ 0 → F = .error e ∧ RBad w' x e
  kp : Keep (fpR x bb A) w w'

set_option maxRecDepth 100000 in
set_option maxHeartbeats 4000000 in
theorem rstored_ok (w : World) {base x bb : Nat} {Ab : Option Addr} {cb : Nat} {A : Option Addr} {c : Nat} {s : IS} (h : RfV w base x bb Ab cb A c s) (hb : base ≤ w.heap.size) (hf : Fine s) :
    VC Tryd.prog 40 [.pointer (some ⟨x, 0, none⟩)] w
      (fun v w' => (v = .tuple #[] ∧ RRes base x bb Ab cb A w w' (plainS s)) ∧ Keep (fpR x bb A) w w') := by
  have hf0 := hf
  obtain ⟨f1, f2, f3, f4, f5⟩ := hf
  obtain ⟨p, hp⟩ : ∃ p, p = alignP s.at_ / 8 := ⟨_, rfl⟩
  have hp8 : alignP s.at_ = 8 * p := by rw [hp]; unfold alignP; omega
  have hpb : p ≤ s.l.length := by rw [hp]; unfold alignP; omega
  obtain ⟨N, hN⟩ : ∃ N, N = numL s.l (8 * p) 16 := ⟨_, rfl⟩
  obtain ⟨M, hM⟩ : ∃ M, M = numL s.l (8 * p + 16) 16 := ⟨_, rfl⟩
  have hN16 : N < 65536 := by rw [hN]; exact numL_lt _ _ 16
  have hM16 : M < 65536 := by rw [hM]; exact numL_lt _ _ 16
  obtain ⟨F, hF⟩ : ∃ F, F = plainS s := ⟨_, rfl⟩
  rw [← hF]
  have hF : F = if 8 * s.l.length < 8 * p + 16 then .error 2 else if 8 * s.l.length < 8 * p + 32 then .error 2 else if N ^^^ M ≠ 65535 then .error 10 else
      (if p + 4 + N ≤ s.l.length then (if s.most < s.all.length - s.from_ + N then .error 3 else .ok (stoS s p N)) else if s.most < s.all.length - s.from_ + (s.l.length - (p + 4)) then .error 3 else .error 2) := by
    rw [hF]
    unfold plainS plainF
    rw [hp8, ← hN, ← hM, show 8 * p / 8 = p from by omega]
    by_cases g1 : 8 * s.l.length < 8 * p + 16
    · rw [if_pos g1, if_pos g1]
    rw [if_neg g1, if_neg g1]
    by_cases g2 : 8 * s.l.length < 8 * p + 32
    · rw [if_pos g2, if_pos g2]
    rw [if_neg g2, if_neg g2]
    by_cases g3 : N ^^^ M ≠ 65535
    · rw [if_pos g3, if_pos g3]
    rw [if_neg g3, if_neg g3]
    by_cases g4 : p + 4 + N ≤ s.l.length
    · rw [if_pos g4, if_pos g4]
      by_cases g5 : s.most < s.all.length - s.from_ + N
      · rw [if_pos g5, if_pos g5]
      · rw [if_neg g5, if_neg g5]; rfl
    · rw [if_neg g4, if_neg g4]
      by_cases g5 : s.most < s.all.length - s.from_ + (s.l.length - (p + 4))
      · rw [if_pos g5, if_pos g5]
      · rw [if_neg g5, if_neg g5]
  refine VC.of tt_ok Tryd.func40 rfl (by decide +kernel) (Nat.le_of_ble_eq_true rfl) ?_; (conv => whnf)
  refine VLoad.by_ (h.1.1.cell 0) ?_
  (conv => whnf)
  refine (bitsAlign_ok w h.1.2.1 (by omega) (fun a ha => (h.arb a ha).2)).mono ?_
  rintro v w1 ⟨rfl, hb1, k1⟩
  rw [hp8] at hb1
  have kB1 : Keep (fpB x bb) w w1 := k1.mono fun _ _ h => .inr h
  have h1 : RfV w1 base x bb Ab cb A c { s with at_ := 8 * p } := h.after kB1 ⟨h.1.1.keep k1 h.nexb, hb1, h.1.2.2.1.keep k1 (fun a ha => (h.aa a ha).2), h.1.2.2.2⟩
  apply withKey (T := fun N0 c0 Q => ∀ (fr : Fr) (w6 : World) (nz : Int) (e : Nat), fhas fr [(0, .pointer (some ⟨x, 0, none⟩)), (2, .int .i64 nz), (4, .int .i64 0)] →
    StV base x bb Ab cb A F w w6 s p N nz 0 A c e → VLoop Tryd.prog tt N0 c0 Q fr w6)
  case use =>
    intro key
    (conv => whnf)
    refine (rbits2_ok w1 h1 f1 (by dsimp only; omega) (n := 16) (by omega)).mono ?_
    rintro v w2 ⟨hv, k2⟩
    unfold bitsF at hv
    dsimp only at hv
    have kB2 := kB1.trans k2
    by_cases g1 : 8 * s.l.length < 8 * p + 16
    · rw [if_neg (by omega)] at hv
      rw [if_pos g1] at hF
      obtain ⟨⟨z, rfl⟩, hbad⟩ := hv.bad _ rfl
      (conv => whnf)
      refine (rbitsBad_ok w2 hbad _).mono ?_
      rintro v w3 ⟨rfl, rfl⟩
      (conv => whnf)
      refine VLoad.by_ hbad.cell ?_
      (conv => whnf)
      refine VCmp.mk (fun h => absurd h (by omega)) (fun _ => ?_); (conv => whnf)
      exact key _ w3 z 2 ⟨rfl, rfl, rfl, trivial⟩ ⟨fun h => absurd h (by decide), fun _ => ⟨hF, hbad⟩, fpB_R kB2⟩
    rw [if_pos (by omega), ← hN] at hv
    rw [if_neg g1] at hF
    obtain ⟨rfl, h2⟩ := hv.ok _ _ rfl
    (conv => whnf)
    refine (rbits2_ok w2 h2 f1 (by dsimp only; omega) (n := 16) (by omega)).mono ?_
    rintro v w3 ⟨hv, k3⟩
    unfold bitsF at hv
    dsimp only at hv
    have kB3 := kB2.trans k3
    by_cases g2 : 8 * s.l.length < 8 * p + 32
    · rw [if_neg (by omega)] at hv
      rw [if_pos g2] at hF
      obtain ⟨⟨z, rfl⟩, hbad⟩ := hv.bad _ rfl
      (conv => whnf)
      refine VLoad.by_ hbad.cell ?_
      (conv => whnf)
      refine VCmp.mk (fun h => absurd h (by omega)) (fun _ => ?_); (conv => whnf)
      exact key _ w3 N 2 ⟨rfl, rfl, rfl, trivial⟩ ⟨fun h => absurd h (by decide), fun _ => ⟨hF, hbad⟩, fpB_R kB3⟩
    rw [if_pos (by omega), ← hM] at hv
    rw [if_neg g2] at hF
    obtain ⟨rfl, h3⟩ := hv.ok _ _ rfl
    (conv => whnf)
    refine VLoad.by_ (h3.1.1.cell 4) ?_
    (conv => whnf)
    refine VCmp.mk (fun _ => ?_) (fun h => absurd rfl h); (conv => whnf)
    refine VRes.xorNat (N := M) (M := 65535) (R := M ^^^ 65535) rfl rfl (by omega) (by omega) rfl ?_
    (conv => whnf)
    refine VCmp.mk (fun g3 => ?_) (fun g3 => ?_) <;> (conv => whnf)
    · have g3 : (N : Int) ≠ ((M ^^^ 65535 : Nat) : Int) := g3
      rw [if_pos (fun e => g3 (by rw [xor_ne.1 e]))] at hF
      refine (rfail2_ok w3 h3 (k := 10) (by decide)).mono ?_
      rintro v w4 ⟨rfl, hbad, k4⟩
      (conv => whnf)
      exact key _ w4 N 10 ⟨rfl, rfl, rfl, trivial⟩ ⟨fun h => absurd h (by decide), fun _ => ⟨hF, hbad⟩, (fpB_R kB3).trans (k4.mono fun _ _ h => .inl h)⟩
    · have g3 : ¬ (N : Int) ≠ ((M ^^^ 65535 : Nat) : Int) := g3
      have e3 : N = M ^^^ 65535 := by omega
      rw [if_neg (fun e => e (xor_ne.2 e3))] at hF
      have hS : ({ s with at_ := 8 * p + 16 + 16 } : IS) = stoS s p 0 := by
        unfold stoS
        rw [List.drop_eq_nil_of_le (by rw [List.length_take]; omega), List.append_nil, show 8 * p + 16 + 16 = 8 * (p + 4 + 0) from by omega]
      have h3 : RfV w3 base x bb Ab cb A c (stoS s p 0) := by rw [← hS]; exact h3
      exact key _ w3 N 0 ⟨rfl, rfl, rfl, trivial⟩ ⟨fun _ => ⟨rfl, Nat.zero_le _, by omega, by omega, h3, fun a ha => .inl ⟨a, ha, rfl⟩, hF⟩, fun h => absurd rfl h, fpB_R kB3⟩
  intro fr w6 nz e hfr hst
  clear hF h1 hb1
  refine VLoop.sub hfr ?_
  refine VLoop.by_ tt_ok (S := Nat × Option Addr × Nat × Nat) (fun | (i, Ai, ci, e) => [(0, .pointer (some ⟨x, 0, none⟩)), (2, .int .i64 nz), (4, .int .i64 i)])
    (fun | (i, Ai, ci, e) => fun w' => StV base x bb Ab cb A F w w' s p N nz i Ai ci e) (fun | (i, Ai, ci, e) => if e = 0 then N - i + 1 else 0)
    (0, A, c, e) ⟨rfl, rfl, rfl, trivial⟩ hst ?_
  clear hst hfr
  rintro ⟨i, Ai, ci, e⟩ w7 ⟨q1, q2, k7⟩
  have k7_sz := k7.size
  by_cases he : e = 0
  rotate_left 1
  · obtain ⟨hF, hbad⟩ := q2 he
    (conv => whnf)
    refine VCmp.mk (fun gi => ?_) (fun gi => ?_) <;> (conv => whnf)
    · refine VLoad.by_ hbad.cell ?_
      (conv => whnf)
      refine VCmp.mk (fun g => absurd g (by omega)) (fun _ => ?_); (conv => whnf)
      exact ⟨⟨rfl, by rw [hF]; exact .mkBad hbad⟩, k7⟩
    · exact ⟨⟨rfl, by rw [hF]; exact .mkBad hbad⟩, k7⟩
  subst he
  obtain ⟨rfl, hiN, hil, him, h7, hat7, hF⟩ := q1 rfl
  clear q1 q2
  have hSl := stoS_len s hil
  (conv => whnf)
  refine VCmp.mk (fun gi => ?_) (fun gi => ?_) <;> (conv => whnf)
  rotate_left 1
  · obtain rfl : i = N := by omega
    rw [if_pos hil, if_neg (by omega)] at hF
    exact ⟨⟨rfl, by rw [hF]; exact .mkOk ⟨Ai, ci, h7, hat7⟩⟩, k7⟩
  refine VLoad.by_ (h7.1.1.cell 4) ?_
  (conv => whnf)
  refine VCmp.mk (fun _ => ?_) (fun h => absurd rfl h); (conv => whnf)
  refine (rbits2_ok w7 h7 f1 (by show 8 * (p + 4 + i) ≤ _; omega) (n := 8) (by omega)).mono ?_
  rintro v w8 ⟨hv, k8⟩
  unfold bitsF at hv
  have lift : ∀ {w9 : World}, Keep (fpR x bb Ai) w7 w9 → Keep (fpR x bb A) w w9 := fun k => Keep.andThen k7 k (fun i hi hT => by
    rcases hT with h | h | ⟨a, ha, e⟩
    · exact .inl h
    · exact .inr (.inl h)
    · rcases hat7 a ha with q | q
      · exact .inr (.inr (by rw [← e]; exact q))
      · omega)
  have hsz8 := k8.size
  by_cases g1 : p + 4 + i + 1 ≤ s.l.length
  rotate_left 1
  · rw [if_neg (show ¬ (stoS s p i).at_ + 8 ≤ 8 * (stoS s p i).l.length from show ¬ 8 * (p + 4 + i) + 8 ≤ 8 * s.l.length by omega)] at hv
    rw [if_neg (by omega), if_neg (by omega)] at hF
    obtain ⟨⟨z, rfl⟩, hbad⟩ := hv.bad _ rfl
    (conv => whnf)
    refine VLoad.by_ hbad.cell ?_
    (conv => whnf)
    refine VCmp.mk (fun h => absurd h (by omega)) (fun _ => ?_); (conv => whnf)
    refine VRes.i64 (by omega) ?_; (conv => whnf)
    exact ⟨(i + 1, Ai, ci, 2), ⟨rfl, rfl, rfl, trivial⟩, ⟨fun h => absurd h (by decide), fun _ => ⟨hF, hbad⟩, lift (fpB_R k8)⟩, by dsimp only; rw [if_neg (by decide), if_pos rfl]; omega⟩
  rw [if_pos (show (stoS s p i).at_ + 8 ≤ 8 * (stoS s p i).l.length from show 8 * (p + 4 + i) + 8 ≤ 8 * s.l.length by omega)] at hv
  obtain ⟨rfl, h8⟩ := hv.ok _ _ rfl
  have e8 : numL (stoS s p i).l (stoS s p i).at_ 8 = numL s.l (8 * (p + 4 + i)) 8 := rfl
  rw [e8]
  (conv => whnf)
  refine VLoad.by_ (h8.1.1.cell 4) ?_
  (conv => whnf)
  refine VCmp.mk (fun _ => ?_) (fun h => absurd rfl h); (conv => whnf)
  refine VRes.byte (N := numL s.l (8 * (p + 4 + i)) 8) rfl ?_
  (conv => whnf)
  refine (rput2_ok w8 h8 (by omega) (show s.from_ ≤ (stoS s p i).all.length by omega) (show (stoS s p i).all.length ≤ _ by omega) (show s.most ≤ _ by omega) (UInt8.ofNat (numL s.l (8 * (p + 4 + i)) 8))).mono ?_
  rintro v w9 ⟨⟨rfl, hv⟩, k9⟩
  have hv : RRes base x bb Ab cb Ai w8 w9 (if s.most < (stoS s p i).all.length - s.from_ + 1 then .error 3 else .ok { (stoS s p i) with at_ := 8 * (p + 4 + i) + 8, all := (stoS s p i).all ++ [UInt8.ofNat (numL s.l (8 * (p + 4 + i)) 8)] }) := hv
  have kk9 := lift ((fpB_R k8).trans k9)
  (conv => whnf)
  refine VRes.i64 (by omega) ?_; (conv => whnf)
  by_cases g2 : s.most < s.all.length - s.from_ + i + 1
  · rw [if_pos (by omega)] at hv
    have hF3 : F = .error 3 := by
      rw [hF]
      by_cases g4 : p + 4 + N ≤ s.l.length
      · rw [if_pos g4, if_pos (by omega)]
      · rw [if_neg g4, if_pos (by omega)]
    exact ⟨(i + 1, Ai, ci, 3), ⟨rfl, rfl, rfl, trivial⟩, ⟨fun h => absurd h (by decide), fun _ => ⟨hF3, hv.bad _ rfl⟩, kk9⟩, by dsimp only; rw [if_neg (by decide), if_pos rfl]; omega⟩
  · rw [if_neg (by omega)] at hv
    obtain ⟨A', c', h9, hat9⟩ := hv.ok _ rfl
    have e9 : ({ (stoS s p i) with at_ := 8 * (p + 4 + i) + 8, all := (stoS s p i).all ++ [UInt8.ofNat (numL s.l (8 * (p + 4 + i)) 8)] } : IS) = stoS s p (i + 1) := by
      rw [stoS_next s (by omega)]
      unfold stoS
      rw [show 8 * (p + 4 + i) + 8 = 8 * (p + 4 + (i + 1)) from by omega]
    rw [e9] at h9
    refine ⟨(i + 1, A', c', 0), ⟨rfl, rfl, rfl, trivial⟩, ⟨fun _ => ⟨rfl, by omega, by omega, by omega, h9, fun a ha => ?_, hF⟩, fun h => absurd rfl h, kk9⟩, by dsimp only; rw [if_pos rfl, if_pos rfl]; omega⟩
    rcases hat9 a ha with ⟨a0, h0, e0⟩ | q
    · rcases hat7 a0 h0 with q | q
      · exact .inl (by rw [← e0]; exact q)
      · exact .inr (by omega)
    · exact .inr (by omega)
end Go.Proofs.YtgmopcbfgcagaaaDoor
