/-
  The document's inflate: how long a copy is, how far back; its steps by the program's plain functions.
-/
import Derived.Test.YtgmopcbfgcagaaaDoorK7
namespace Go.Proofs.YtgmopcbfgcagaaaDoor
open Go V

def distN (s : IS) (y : Nat) : Except Nat (Nat × IS) :=
  if y < 4 then .ok (y + 1, s) else
  if 8 * s.l.length < s.at_ + (y / 2 - 1) then .error 2 else .ok ((2 + y % 2) * 2 ^ (y / 2 - 1) + 1 + numL s.l s.at_ (y / 2 - 1), { s with at_ := s.at_ + (y / 2 - 1) })

set_option maxHeartbeats 1000000 in
theorem rlen_ok (w : World) {base x bb : Nat} {Ab : Option Addr} {cb : Nat} {A : Option Addr} {c : Nat} {s : IS} (h : RfV w base x bb Ab cb A c s) (hn : s.l.length ≤ 1000000) (ha : s.at_ ≤ 100000000) {y : Nat} (hy : 256 < y) (hy2 : y ≤ 285) :
    VC Tryd.prog 64 [.pointer (some ⟨x, 0, none⟩), .int .i64 y] w (fun v w' => RNum base x bb Ab cb A c w' (lenF s y) v ∧ Keep (fpB x bb) w w') := by
  obtain ⟨F, hF⟩ : ∃ F, F = lenF s y := ⟨_, rfl⟩
  rw [← hF]
  unfold lenF at hF
  rw [if_neg (by omega)] at hF
  refine VC.of tt_ok Tryd.func64 rfl (by decide +kernel) (Nat.le_of_ble_eq_true rfl) ?_; (conv => whnf)
  refine VCmp.mk (fun g1 => ?_) (fun g1 => ?_) <;> (conv => whnf)
  · rw [if_neg (by omega), if_pos (by omega)] at hF
    subst hF
    refine VRes.i64 (by omega) ?_; (conv => whnf)
    exact ⟨.mkOk (congrArg (Value.int .i64) (by omega)) h, Keep.refl _ _⟩
  refine VCmp.mk (fun g2 => ?_) (fun g2 => ?_) <;> (conv => whnf)
  · rw [if_pos (by omega)] at hF
    subst hF
    exact ⟨.mkOk rfl h, Keep.refl _ _⟩
  rw [if_neg (by omega), if_neg (by omega)] at hF
  obtain ⟨e, he⟩ : ∃ e, e = (y - 261) / 4 := ⟨_, rfl⟩
  rw [← he] at hF
  have he5 : e ≤ 6 := by omega
  have q1 : ((y : Int) - 261).tdiv 4 = (e : Int) := by rw [Int.tdiv_eq_ediv_of_nonneg (by omega)]; omega
  have q2 : ((y : Int) - 265).tmod 4 = (((y - 265) % 4 : Nat) : Int) := by rw [Int.tmod_eq_emod_of_nonneg (by omega)]; omega
  have hp : 2 ^ e ≤ 2 ^ 6 := Nat.pow_le_pow_right (by omega) he5
  have hpm : (4 + (y - 265) % 4) * 2 ^ e ≤ 8 * 64 := Nat.mul_le_mul (by omega) hp
  refine VRes.i64 (by omega) ?_; (conv => whnf)
  refine VReq.mk (by omega) ?_
  rw [q1]
  refine VRes.i64 (by omega) ?_; (conv => whnf)
  refine VRes.i64 (by omega) ?_; (conv => whnf)
  refine VReq.mk (by omega) ?_
  refine VRes.to (congrArg (Value.int .i64) q2) ?_
  (conv => whnf)
  rw [show (4 : Int) + (((y - 265) % 4 : Nat) : Int) = ((4 + (y - 265) % 4 : Nat) : Int) from by omega]
  refine VRes.i64 (by omega) ?_; (conv => whnf)
  refine VRes.u64 (by omega) ?_
  (conv => whnf)
  refine VReq.mk (by omega) ?_
  refine VRes.shlNat (N := 4 + (y - 265) % 4) (s := e) rfl rfl (by omega) (by omega) ?_
  (conv => whnf)
  refine VRes.i64 (by omega) ?_; (conv => whnf)
  refine (rbits2_ok w h hn ha (n := e) (by omega)).mono ?_
  rintro v w1 ⟨hv, k1⟩
  have hN := numL_small s.l s.at_ e (by omega)
  unfold bitsF at hv
  by_cases g4 : s.at_ + e ≤ 8 * s.l.length
  · rw [if_pos g4] at hv
    rw [if_neg (by omega)] at hF
    obtain ⟨rfl, h1⟩ := hv.ok _ _ rfl
    subst hF
    (conv => whnf)
    refine VRes.i64 (by omega) ?_; (conv => whnf)
    exact ⟨.mkOk (congrArg (Value.int .i64) (by omega)) h1, k1⟩
  · rw [if_neg g4] at hv
    rw [if_pos (by omega)] at hF
    obtain ⟨⟨z, rfl⟩, h1⟩ := hv.bad _ rfl
    subst hF
    (conv => whnf)
    refine VRes.raw ?_
    (conv => whnf)
    exact ⟨.mkBad ⟨_, rfl⟩ h1, k1⟩

set_option maxHeartbeats 1000000 in
theorem rdist_ok (w : World) {base x bb : Nat} {Ab : Option Addr} {cb : Nat} {A : Option Addr} {c : Nat} {s : IS} (h : RfV w base x bb Ab cb A c s) (hn : s.l.length ≤ 1000000) (ha : s.at_ ≤ 100000000) {y : Nat} (hy : y < 30) :
    VC Tryd.prog 65 [.pointer (some ⟨x, 0, none⟩), .int .i64 y] w (fun v w' => RNum base x bb Ab cb A c w' (distN s y) v ∧ Keep (fpB x bb) w w') := by
  obtain ⟨F, hF⟩ : ∃ F, F = distN s y := ⟨_, rfl⟩
  rw [← hF]
  unfold distN at hF
  refine VC.of tt_ok Tryd.func65 rfl (by decide +kernel) (Nat.le_of_ble_eq_true rfl) ?_; (conv => whnf)
  refine VCmp.mk (fun g1 => ?_) (fun g1 => ?_) <;> (conv => whnf)
  · rw [if_pos (by omega)] at hF
    subst hF
    refine VRes.i64 (by omega) ?_; (conv => whnf)
    exact ⟨.mkOk rfl h, Keep.refl _ _⟩
  rw [if_neg (by omega)] at hF
  obtain ⟨e, he⟩ : ∃ e, e = y / 2 - 1 := ⟨_, rfl⟩
  rw [← he] at hF
  have he5 : e ≤ 14 := by omega
  have q1 : (y : Int).tdiv 2 = ((y / 2 : Nat) : Int) := by rw [Int.tdiv_eq_ediv_of_nonneg (by omega)]; rfl
  have q2 : (y : Int).tmod 2 = ((y % 2 : Nat) : Int) := by rw [Int.tmod_eq_emod_of_nonneg (by omega)]; rfl
  have hp : 2 ^ e ≤ 2 ^ 14 := Nat.pow_le_pow_right (by omega) he5
  have hpm : (2 + y % 2) * 2 ^ e ≤ 4 * 16384 := Nat.mul_le_mul (by omega) hp
  refine VReq.mk (by omega) ?_
  rw [q1]
  refine VRes.i64 (by omega) ?_; (conv => whnf)
  rw [show ((y / 2 : Nat) : Int) - 1 = (e : Int) from by omega]
  refine VRes.i64 (by omega) ?_; (conv => whnf)
  refine VReq.mk (by omega) ?_
  refine VRes.to (congrArg (Value.int .i64) q2) ?_
  (conv => whnf)
  rw [show (2 : Int) + ((y % 2 : Nat) : Int) = ((2 + y % 2 : Nat) : Int) from by omega]
  refine VRes.i64 (by omega) ?_; (conv => whnf)
  refine VRes.u64 (by omega) ?_
  (conv => whnf)
  refine VReq.mk (by omega) ?_
  refine VRes.shlNat (N := 2 + y % 2) (s := e) rfl rfl (by omega) (by omega) ?_
  (conv => whnf)
  refine VRes.i64 (by omega) ?_; (conv => whnf)
  refine (rbits2_ok w h hn ha (n := e) (by omega)).mono ?_
  rintro v w1 ⟨hv, k1⟩
  have hN := numL_small s.l s.at_ e (by omega)
  unfold bitsF at hv
  by_cases g4 : s.at_ + e ≤ 8 * s.l.length
  · rw [if_pos g4] at hv
    rw [if_neg (by omega)] at hF
    obtain ⟨rfl, h1⟩ := hv.ok _ _ rfl
    subst hF
    (conv => whnf)
    refine VRes.i64 (by omega) ?_; (conv => whnf)
    exact ⟨.mkOk (congrArg (Value.int .i64) (by omega)) h1, k1⟩
  · rw [if_neg g4] at hv
    rw [if_pos (by omega)] at hF
    obtain ⟨⟨z, rfl⟩, h1⟩ := hv.bad _ rfl
    subst hF
    (conv => whnf)
    refine VRes.raw ?_
    (conv => whnf)
    exact ⟨.mkBad ⟨_, rfl⟩ h1, k1⟩

/-! ### The program's steps, said by these -/
theorem symN_fine {lens : List Nat} {s s' : IS} {y : Nat} (hl : lens.length ≤ 320) (h2 : s.at_ ≤ 8 * s.l.length) (h : symN lens s = .ok (y, s')) : ∃ p, s' = { s with at_ := p } ∧ s.at_ + 1 ≤ p ∧ p ≤ 8 * s.l.length ∧ y < 320 := by
  obtain ⟨hp1, hp2, hp3⟩ := takeF_pos (cntK lens lens.length) (ordA lens 15) s.l s.at_ h2
  have hsym := takeK_lt (b := 320) (by omega) (cntK lens lens.length) (ordA lens 15) s.l (fun x hx => by have := ordA_lt lens 15 x hx; omega) 15 1 0 0 0 s.at_
  unfold symN at h
  unfold takeF at h hp3 hp2
  generalize takeK (cntK lens lens.length) (ordA lens 15) s.l 15 1 0 0 0 s.at_ = T at h hp3 hp2 hsym
  obtain ⟨z, er, p⟩ := T
  dsimp only at h hp3 hp2 hsym
  by_cases g : er ≠ 0
  · rw [if_pos g] at h; injection h
  · rw [if_neg g] at h
    injection h with h
    injection h with h1 h2
    subst h1
    subst h2
    exact ⟨_, rfl, hp3 (by omega), hp2, hsym⟩
theorem symN_err {lens : List Nat} {s : IS} {e : Nat} (h : symN lens s = .error e) : e ≠ 0 := by
  unfold symN at h
  generalize takeF (cntK lens lens.length) (ordA lens 15) s.l s.at_ = T at h
  by_cases g : T.2.1 ≠ 0
  · rw [if_pos g] at h
    injection h with h
    subst h
    exact g
  · rw [if_neg g] at h; injection h
theorem distF_eq (lens : List Nat) (s : IS) : distF (cntK lens lens.length) (ordA lens 15) s = (match symN lens s with | .error e => .error e | .ok (y, s1) => if 30 ≤ y then .error 10 else distN s1 y) := by
  unfold distF symN
  generalize takeF (cntK lens lens.length) (ordA lens 15) s.l s.at_ = T
  by_cases g : T.2.1 ≠ 0
  · rw [if_pos g, if_pos g]
  · rw [if_neg g, if_neg g]
    rfl
/-- A symbol's copy, step by step. -/
def copyN (lens : List Nat) (s : IS) (y : Nat) : Except Nat IS :=
  match lenF s y with
  | .error e => .error e
  | .ok (n, s1) => match symN lens s1 with
    | .error e => .error e
    | .ok (d, s2) => if 30 ≤ d then .error 10 else match distN s2 d with
      | .error e => .error e
      | .ok (b, s3) => if s3.all.length < b then .error 10 else if s3.most < s3.all.length - s3.from_ + n then .error 3 else .ok { s3 with all := copyAll s3.all b n }
theorem copyF_eq (lens : List Nat) (s : IS) (y : Nat) : copyF (cntK lens lens.length) (ordA lens 15) s y = copyN lens s y := by
  unfold copyF copyN
  cases lenF s y with
  | error e => rfl
  | ok r =>
    obtain ⟨n, s1⟩ := r
    dsimp only
    rw [distF_eq]
    cases symN lens s1 with
    | error e => rfl
    | ok r =>
      obtain ⟨d, s2⟩ := r
      dsimp only
      by_cases g : 30 ≤ d
      · rw [if_pos g, if_pos g]
      · rw [if_neg g, if_neg g]
        generalize distN s2 d = G
        cases G with
        | error e => rfl
        | ok r => rfl
/-- Symbols to a block's end, step by step. -/
theorem symF_eq (lens lensD : List Nat) (f : Nat) (s : IS) : symF (cntK lens lens.length) (ordA lens 15) (cntK lensD lensD.length) (ordA lensD 15) (f + 1) s =
    (match symN lens s with
      | .error e => .error e
      | .ok (y, s1) => if y = 256 then .ok s1 else if 256 < y then (match copyN lensD s1 y with | .error e => .error e | .ok s' => symF (cntK lens lens.length) (ordA lens 15) (cntK lensD lensD.length) (ordA lensD 15) f s') else
        if s1.most < s1.all.length - s1.from_ + 1 then .error 3 else symF (cntK lens lens.length) (ordA lens 15) (cntK lensD lensD.length) (ordA lensD 15) f { s1 with all := s1.all ++ [UInt8.ofNat y] }) := by
  conv => lhs; unfold symF
  unfold symN
  generalize takeF (cntK lens lens.length) (ordA lens 15) s.l s.at_ = T
  by_cases g : T.2.1 ≠ 0
  · rw [if_pos g, if_pos g]
  · rw [if_neg g, if_neg g]
    dsimp only
    rw [copyF_eq]
    generalize copyN lensD _ _ = G
    cases G with
    | error e => rfl
    | ok r => rfl
end Go.Proofs.YtgmopcbfgcagaaaDoor
