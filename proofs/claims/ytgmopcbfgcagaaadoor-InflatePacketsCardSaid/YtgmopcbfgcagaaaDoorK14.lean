/-
  The document's inflate: its start; packets one behind the other.
-/
import Derived.Test.YtgmopcbfgcagaaaDoorK13
namespace Go.Proofs.YtgmopcbfgcagaaaDoor
open Go V

abbrev TRi : TypeId := 43
theorem rlast_ok (w : World) {A : Option Addr} {n c : Nat} {hist : List UInt8} (hs : Sl w 1 A n (hist.map vb)) (hnc : n ≤ c) (hn : n ≤ 10000000) :
    VC Tryd.prog 28 [.slice A n c, .int .i64 32768] w (fun v w' => ∃ A' c', v = .slice A' (win hist).length c' ∧ Own w' w.heap.size T8 1 A' (win hist).length c' ((win hist).map vb) ∧ Keep No w w') := by
  have hhl : hist.length = n := by simpa using hs.len
  refine VC.of tt_ok Tryd.func28 rfl (by decide +kernel) (Nat.le_of_ble_eq_true rfl) ?_; (conv => whnf)
  refine VRes.i64 (by omega) ?_; (conv => whnf)
  have hmx : (if 0 > (n : Int) - 32768 then 0 else (n : Int) - 32768) = ((n - 32768 : Nat) : Int) := by split <;> omega
  refine VRes.to (congrArg (Value.int .i64) hmx) ?_
  (conv => whnf)
  refine VReq.mk hnc ?_
  refine VCut.by_ (n - 32768) n rfl rfl (by omega) hnc ?_
  intro A3 hA3
  have h3 := Sl.cut8 hs (l := n - 32768) (h := n) (by omega) (Nat.le_refl _) hnc (A' := A3) hA3
  rw [List.take_of_length_le (by omega)] at h3
  have ew : hist.drop (n - 32768) = win hist := by unfold win; rw [hhl]
  have el : n - (n - 32768) = (win hist).length := by unfold win; rw [List.length_drop, hhl]
  rw [ew, el] at h3
  rw [el]
  (conv => whnf)
  refine (copy_ok w h3 (by unfold win; rw [List.length_drop]; omega)).mono ?_
  rintro v w1 ⟨A1, c1, rfl, ho1, k1⟩
  (conv => whnf)
  exact ⟨A1, c1, rfl, ho1, k1⟩

theorem start_all (b hist : List UInt8) (most : Nat) : (startS b hist most).all = win hist := by unfold startS win; dsimp only
theorem start_from (b hist : List UInt8) (most : Nat) : (startS b hist most).from_ = (win hist).length := by unfold startS win; dsimp only
set_option maxHeartbeats 1000000 in
theorem ropen_ok (w : World) {A B : Option Addr} {n c m d : Nat} {b hist : List UInt8} (hb : Sl w 1 A n (b.map vb)) (hh : Sl w 1 B m (hist.map vb)) (hn : n ≤ 100000) (hm : m ≤ 1000000) (hmd : m ≤ d) (most : Nat) :
    VC Tryd.prog 24 [.slice A n c, .slice B m d, .int .i64 most] w (fun v w' => (∃ x bb Ab cb A' c', v = .pointer (some ⟨x, 0, none⟩) ∧ RfV w' w.heap.size x bb Ab cb A' c' (startS b hist most)) ∧ Keep No w w') := by
  have hbl : b.length = n := by simpa using hb.len
  have hhl : hist.length = m := by simpa using hh.len
  have hop : (openP false b).length = 8 * n := by rw [openP_len, hbl]
  refine VC.of tt_ok Tryd.func24 rfl (by decide +kernel) (Nat.le_of_ble_eq_true rfl) ?_; (conv => whnf)
  refine (rlast_ok w hh hmd (by omega)).mono ?_
  rintro v w1 ⟨A1, c1, rfl, ho1, k1⟩
  (conv => whnf)
  refine (bitsOpen_ok w1 false (hb.keepNo k1) hn).mono ?_
  rintro v w2 ⟨⟨Ab, cb, rfl, hb2, ho2⟩, k2⟩
  have kp := k1.trans k2
  have k1_sz := k1.size
  have k2_sz := k2.size
  (conv => whnf)
  refine VFill.by_ rfl ?_; (conv => whnf)
  refine ⟨fun w3 hb3 k3 => ?_⟩
  (conv => whnf)
  have kp := kp.trans k3
  have eA := start_all b hist most
  have eF := start_from b hist most
  refine ⟨⟨_, _, Ab, cb, A1, c1, rfl, ⟨⟨?_, ?_, ?_, by omega, by omega⟩, fun a ha => ⟨?_, (ho2.ty ha).keepNo k3, fun a' ha' e => ?_⟩⟩⟩, kp⟩
  · rw [eA, eF]; exact hb3
  · exact ⟨by rw [show (startS b hist most).l = b from rfl, hop]; exact hb2.keepNo k3, by rw [show (startS b hist most).l = b from rfl, hop]; exact (Sl.ofOwn ho2).keepNo k3⟩
  · rw [eA]; exact (ho1.keepNo k2).keepNo k3
  · have := (ho2.base_ ha).1
    omega
  · have h4 := (ho2.base_ ha).1
    have h5 := (ho1.base_ ha').2
    omega

/-! ### What stands ahead stays -/
theorem copyAll_pre (all : List UInt8) (back : Nat) : ∀ k, ∃ t, copyAll all back k = all ++ t
  | 0 => ⟨[], by rw [copyAll, List.append_nil]⟩
  | k + 1 => by
    obtain ⟨t, h⟩ := copyAll_pre all back k
    exact ⟨t ++ [(copyAll all back k).getD ((copyAll all back k).length - back) 0], by rw [copyAll, ← List.append_assoc, ← h]⟩
theorem copyN_pre {lens : List Nat} {s s' : IS} {y : Nat} (hf : Fine s) (hl : lens.length ≤ 320) (hy : 256 < y) (h : copyN lens s y = .ok s') : (∃ t, s'.all = s.all ++ t) ∧ Fine s' ∧ s'.l = s.l ∧ s.at_ ≤ s'.at_ ∧ s'.from_ = s.from_ := by
  have hC : copyF (cntK lens lens.length) (ordA lens 15) s y = .ok s' := by rw [copyF_eq]; exact h
  obtain ⟨q1, q2, q3, q4, q5⟩ := copyF_fine hf hy hC
  refine ⟨?_, q1, q2, q5, q3⟩
  obtain ⟨f1, f2, f3, f4, f5⟩ := hf
  unfold copyN at h
  obtain ⟨G, hG⟩ : ∃ G, G = lenF s y := ⟨_, rfl⟩
  rw [← hG] at h
  cases G with
  | error e => injection h
  | ok r =>
  obtain ⟨n, s1⟩ := r
  dsimp only at h
  have hy2 : y ≤ 285 := by
    rcases Nat.lt_or_ge 285 y with g | g
    · unfold lenF at hG; rw [if_pos (by omega)] at hG; injection hG
    · exact g
  obtain ⟨p, rfl, p1, p2, _⟩ := lenF_fine2 f2 hy hy2 hG.symm
  obtain ⟨G, hG2⟩ : ∃ G, G = symN lens { s with at_ := p } := ⟨_, rfl⟩
  rw [← hG2] at h
  cases G with
  | error e => injection h
  | ok r =>
  obtain ⟨d, s2⟩ := r
  dsimp only at h
  obtain ⟨p2', rfl, p3, p4, _⟩ := symN_fine (s := { s with at_ := p }) hl p2 hG2.symm
  dsimp only at h
  by_cases g : 30 ≤ d
  · rw [if_pos g] at h; injection h
  rw [if_neg g] at h
  obtain ⟨G, hG3⟩ : ∃ G, G = distN { s with at_ := p2' } d := ⟨_, rfl⟩
  rw [← hG3] at h
  cases G with
  | error e => injection h
  | ok r =>
  obtain ⟨b, s3⟩ := r
  dsimp only at h
  obtain ⟨p5, rfl, _, _, _, _⟩ := distN_fine (s := { s with at_ := p2' }) p4 (by omega) hG3.symm
  dsimp only at h
  by_cases g2 : s.all.length < b
  · rw [if_pos g2] at h; injection h
  rw [if_neg g2] at h
  by_cases g3 : s.most < s.all.length - s.from_ + n
  · rw [if_pos g3] at h; injection h
  rw [if_neg g3] at h
  injection h with h
  subst h
  exact copyAll_pre s.all b n
theorem symF_pre {lens lensD : List Nat} (hl : lens.length ≤ 320) (hd : lensD.length ≤ 320) : ∀ (f : Nat) (s s' : IS), Fine s → symF (cntK lens lens.length) (ordA lens 15) (cntK lensD lensD.length) (ordA lensD 15) f s = .ok s' → ∃ t, s'.all = s.all ++ t := by
  intro f
  induction f with
  | zero => intro s s' _ h; unfold symF at h; injection h
  | succ f ih =>
    intro s s' hf h
    rw [symF_eq] at h
    obtain ⟨f1, f2, f3, f4, f5⟩ := hf
    obtain ⟨G, hG⟩ : ∃ G, G = symN lens s := ⟨_, rfl⟩
    rw [← hG] at h
    cases G with
    | error e => injection h
    | ok r =>
    obtain ⟨y, s1⟩ := r
    dsimp only at h
    obtain ⟨p, rfl, p1, p2, _⟩ := symN_fine hl f2 hG.symm
    dsimp only at h
    have hf1 : Fine { s with at_ := p } := ⟨f1, p2, f3, f4, f5⟩
    by_cases g : y = 256
    · rw [if_pos g] at h
      injection h with h
      subst h
      exact ⟨[], (List.append_nil _).symm⟩
    rw [if_neg g] at h
    by_cases g2 : 256 < y
    · rw [if_pos g2] at h
      obtain ⟨G, hG2⟩ : ∃ G, G = copyN lensD { s with at_ := p } y := ⟨_, rfl⟩
      rw [← hG2] at h
      cases G with
      | error e => injection h
      | ok s2 =>
      dsimp only at h
      obtain ⟨⟨t, ht⟩, q1, _⟩ := copyN_pre hf1 hd g2 hG2.symm
      obtain ⟨t2, ht2⟩ := ih _ _ q1 h
      exact ⟨t ++ t2, by rw [ht2, ht, List.append_assoc]⟩
    rw [if_neg g2] at h
    by_cases g3 : s.most < s.all.length - s.from_ + 1
    · rw [if_pos g3] at h; injection h
    rw [if_neg g3] at h
    obtain ⟨t2, ht2⟩ := ih { s with at_ := p, all := s.all ++ [UInt8.ofNat y] } s' ⟨f1, p2, by dsimp only; rw [List.length_append]; omega, by dsimp only; rw [List.length_append, List.length_singleton]; omega, f5⟩ h
    exact ⟨[UInt8.ofNat y] ++ t2, by rw [ht2, List.append_assoc]⟩
theorem plainF_pre {s s' : IS} {z : Bool} (h : plainF s = .ok (s', z)) : ∃ t, s'.all = s.all ++ t := by
  unfold plainF at h
  split at h
  · cases h
  split at h
  · cases h
  split at h
  · cases h
  split at h
  · split at h
    · cases h
    · obtain ⟨q1, q2⟩ := Prod.mk.inj (Except.ok.inj h)
      subst q1
      exact ⟨_, rfl⟩
  · split at h
    · cases h
    · cases h
theorem blockF_pre {s s' : IS} {la em : Bool} (hf : Fine s) (h : blockF s = .ok (s', la, em)) : ∃ t, s'.all = s.all ++ t := by
  obtain ⟨f1, f2, f3, f4, f5⟩ := hf
  unfold blockF at h
  by_cases g1 : 8 * s.l.length < s.at_ + 1
  · rw [if_pos g1] at h; injection h
  rw [if_neg g1] at h
  by_cases g2 : 8 * s.l.length < s.at_ + 3
  · rw [if_pos g2] at h; injection h
  rw [if_neg g2] at h
  have hf3 : Fine { s with at_ := s.at_ + 3 } := ⟨f1, by dsimp only; omega, f3, f4, f5⟩
  obtain ⟨K, hK⟩ : ∃ K, K = numL s.l (s.at_ + 1) 2 := ⟨_, rfl⟩
  obtain ⟨B, hB⟩ : ∃ B, B = (numL s.l s.at_ 1 == 1) := ⟨_, rfl⟩
  rw [← hK, ← hB] at h
  by_cases g3 : K = 0
  · rw [if_pos g3] at h
    obtain ⟨G, hG⟩ : ∃ G, G = plainF { s with at_ := s.at_ + 3 } := ⟨_, rfl⟩
    rw [← hG] at h
    cases G with
    | error e => injection h
    | ok t =>
      obtain ⟨s1, z⟩ := t
      injection h with h
      injection h with h
      subst h
      exact plainF_pre (s := { s with at_ := s.at_ + 3 }) hG.symm
  rw [if_neg g3] at h
  by_cases g4 : K = 1
  · rw [if_pos g4, fix_sym] at h
    obtain ⟨G, hG⟩ : ∃ G, G = symF (cntK fixL fixL.length) (ordA fixL 15) (cntK fixDL fixDL.length) (ordA fixDL 15) (8 * s.l.length + 1) { s with at_ := s.at_ + 3 } := ⟨_, rfl⟩
    rw [← hG] at h
    cases G with
    | error e => injection h
    | ok s1 =>
      injection h with h
      injection h with h
      subst h
      exact symF_pre fixL_ok.1 fixDL_ok.1 _ { s with at_ := s.at_ + 3 } _ hf3 hG.symm
  rw [if_neg g4] at h
  by_cases g5 : K = 2
  · rw [if_pos g5] at h
    obtain ⟨G, hG⟩ : ∃ G, G = codesF { s with at_ := s.at_ + 3 } := ⟨_, rfl⟩
    rw [← hG] at h
    cases G with
    | error e => injection h
    | ok t =>
      obtain ⟨a, b, s1⟩ := t
      dsimp only at h
      obtain ⟨z1, z2, z3, _, _, z4, z5, z6, z7, z8⟩ := codesF_fine hf3 hG.symm
      dsimp only at z5
      obtain ⟨G2, hG2⟩ : ∃ G2, G2 = symF (cntK a a.length) (ordA a 15) (cntK b b.length) (ordA b 15) (8 * s.l.length + 1) s1 := ⟨_, rfl⟩
      rw [← hG2] at h
      cases G2 with
      | error e => injection h
      | ok s2 =>
        injection h with h
        injection h with h
        subst h
        obtain ⟨t, ht⟩ := symF_pre (by omega) (by omega) _ _ _ z1 hG2.symm
        exact ⟨t, by rw [ht, z5]⟩
  rw [if_neg g5] at h
  injection h
theorem packK_pre : ∀ (f : Nat) (s s' : IS), Fine s → packK f s = .ok s' → (∃ t, s'.all = s.all ++ t) ∧ s'.from_ = s.from_ ∧ Fine s' := by
  intro f
  induction f with
  | zero => intro s s' _ h; unfold packK at h; injection h
  | succ f ih =>
    intro s s' hf h
    unfold packK at h
    obtain ⟨G, hG⟩ : ∃ G, G = blockF s := ⟨_, rfl⟩
    rw [← hG] at h
    cases G with
    | error e => injection h
    | ok r =>
    obtain ⟨s1, la, em⟩ := r
    dsimp only at h
    obtain ⟨q1, q2, q3, q4, q5⟩ := blockF_fine hf hG.symm
    obtain ⟨t, ht⟩ := blockF_pre hf hG.symm
    cases la with
    | true => rw [if_pos rfl] at h; injection h
    | false =>
    rw [if_neg (by decide)] at h
    by_cases g : s1.at_ < 8 * s1.l.length
    · rw [if_pos g] at h
      obtain ⟨⟨t2, ht2⟩, e2, e3⟩ := ih _ _ q1 h
      exact ⟨⟨t ++ t2, by rw [ht2, ht, List.append_assoc]⟩, by rw [e2, q3], e3⟩
    rw [if_neg g] at h
    cases em with
    | false => rw [if_neg (by decide)] at h; injection h
    | true =>
      rw [if_pos rfl] at h
      injection h with h
      subst h
      exact ⟨⟨t, ht⟩, q3, q1⟩
end Go.Proofs.YtgmopcbfgcagaaaDoor
