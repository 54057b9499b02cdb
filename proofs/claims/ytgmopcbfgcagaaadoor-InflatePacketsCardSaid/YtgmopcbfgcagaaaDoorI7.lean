/-
  Package inflate: symbols to a block's end; the fixed codes.
-/
import Derived.Test.YtgmopcbfgcagaaaDoorI6
namespace Go.Proofs.YtgmopcbfgcagaaaDoor
open Go V

theorem lenF_fine {s s' : IS} {y n : Nat} (hf : Fine s) (hy : 256 < y) (h : lenF s y = .ok (n, s')) : Fine s' ∧ s'.l = s.l ∧ s'.from_ = s.from_ ∧ s'.most = s.most ∧ s'.all = s.all ∧ s.at_ ≤ s'.at_ := by
  obtain ⟨f1, f2, f3, f4, f5⟩ := hf
  unfold lenF at h
  split at h
  · cases h
  split at h
  · obtain ⟨q1, q2⟩ := Prod.mk.inj (Except.ok.inj h)
    subst q2
    exact ⟨⟨f1, f2, f3, f4, f5⟩, rfl, rfl, rfl, rfl, Nat.le_refl _⟩
  split at h
  · obtain ⟨q1, q2⟩ := Prod.mk.inj (Except.ok.inj h)
    subst q2
    exact ⟨⟨f1, f2, f3, f4, f5⟩, rfl, rfl, rfl, rfl, Nat.le_refl _⟩
  split at h
  · cases h
  · obtain ⟨q1, q2⟩ := Prod.mk.inj (Except.ok.inj h)
    subst q2
    exact ⟨⟨f1, by dsimp only; omega, f3, f4, f5⟩, rfl, rfl, rfl, rfl, by dsimp only; omega⟩
theorem distF_fine {cnt ord : List Nat} {s s' : IS} {n : Nat} (hf : Fine s) (h : distF cnt ord s = .ok (n, s')) : Fine s' ∧ s'.l = s.l ∧ s'.from_ = s.from_ ∧ s'.most = s.most ∧ s'.all = s.all ∧ s.at_ ≤ s'.at_ := by
  obtain ⟨f1, f2, f3, f4, f5⟩ := hf
  obtain ⟨p1, p2, p3⟩ := takeF_pos cnt ord s.l s.at_ f2
  unfold distF at h
  split at h
  · cases h
  split at h
  · cases h
  split at h
  · obtain ⟨q1, q2⟩ := Prod.mk.inj (Except.ok.inj h)
    subst q2
    exact ⟨⟨f1, p2, f3, f4, f5⟩, rfl, rfl, rfl, rfl, p1⟩
  split at h
  · cases h
  · obtain ⟨q1, q2⟩ := Prod.mk.inj (Except.ok.inj h)
    subst q2
    exact ⟨⟨f1, by dsimp only; omega, f3, f4, f5⟩, rfl, rfl, rfl, rfl, by dsimp only; omega⟩
theorem copyF_fine {cnt ord : List Nat} {s s' : IS} {y : Nat} (hf : Fine s) (hy : 256 < y) (h : copyF cnt ord s y = .ok s') : Fine s' ∧ s'.l = s.l ∧ s'.from_ = s.from_ ∧ s'.most = s.most ∧ s.at_ ≤ s'.at_ := by
  unfold copyF at h
  cases h1 : lenF s y with
  | error e => rw [h1] at h; cases h
  | ok r =>
    obtain ⟨n, s1⟩ := r
    rw [h1] at h
    dsimp only at h
    obtain ⟨g1, a1, a2, a3, a4, a5⟩ := lenF_fine hf hy h1
    cases h2 : distF cnt ord s1 with
    | error e => rw [h2] at h; cases h
    | ok r =>
      obtain ⟨b, s2⟩ := r
      rw [h2] at h
      dsimp only at h
      obtain ⟨g2, b1, b2, b3, b4, b5⟩ := distF_fine g1 h2
      split at h
      · cases h
      split at h
      · cases h
      cases h
      obtain ⟨f1, f2, f3, f4, f5⟩ := g2
      refine ⟨⟨f1, f2, ?_, ?_, f5⟩, by dsimp only; rw [b1, a1], by dsimp only; rw [b2, a2], by dsimp only; rw [b3, a3], by dsimp only; omega⟩
      · dsimp only; rw [copyAll_len]; omega
      · dsimp only; rw [copyAll_len]; omega
theorem symF_fine {cnt ord cntD ordD : List Nat} : ∀ {f : Nat} {s s' : IS}, Fine s → symF cnt ord cntD ordD f s = .ok s' → Fine s' ∧ s'.l = s.l ∧ s'.from_ = s.from_ ∧ s'.most = s.most ∧ s.at_ ≤ s'.at_
  | 0, s, s', hf, h => by cases h
  | f + 1, s, s', hf, h => by
    have hf0 := hf
    obtain ⟨f1, f2, f3, f4, f5⟩ := hf
    obtain ⟨p1, p2, p3⟩ := takeF_pos cnt ord s.l s.at_ f2
    unfold symF at h
    split at h
    · cases h
    split at h
    · cases h
      exact ⟨⟨f1, p2, f3, f4, f5⟩, rfl, rfl, rfl, p1⟩
    split at h
    · rename_i hy
      cases h1 : copyF cntD ordD { s with at_ := (takeF cnt ord s.l s.at_).2.2 } (takeF cnt ord s.l s.at_).1 with
      | error e => rw [h1] at h; cases h
      | ok s1 =>
        rw [h1] at h
        dsimp only at h
        obtain ⟨g1, a1, a2, a3, a4⟩ := copyF_fine (s := { s with at_ := (takeF cnt ord s.l s.at_).2.2 }) ⟨f1, p2, f3, f4, f5⟩ hy h1
        obtain ⟨g2, b1, b2, b3, b4⟩ := symF_fine g1 h
        exact ⟨g2, by rw [b1, a1], by rw [b2, a2], by rw [b3, a3], by dsimp only at a4; omega⟩
    split at h
    · cases h
    · obtain ⟨g2, b1, b2, b3, b4⟩ := symF_fine (s := { s with at_ := (takeF cnt ord s.l s.at_).2.2, all := s.all ++ [UInt8.ofNat (takeF cnt ord s.l s.at_).1] }) ⟨f1, p2, by dsimp only; rw [List.length_append]; omega, by dsimp only; rw [List.length_append]; simp; omega, f5⟩ h
      exact ⟨g2, b1, b2, b3, by dsimp only at b4; omega⟩

set_option maxHeartbeats 2000000 in
theorem symbols_ok (w : World) {base x rb : Nat} {Ar : Option Addr} {cr : Nat} {A : Option Addr} {c : Nat} {s : IS} (h : InfV w base x rb Ar cr A c s) (hb : base ≤ w.heap.size) (hf : Fine s) {t td : Nat} {cnt ord cntD ordD : List Nat} (ht : TblV w t cnt ord) (hok : TbOk cnt ord) (htd : TblV w td cntD ordD) (hokd : TbOk cntD ordD)
    {f : Nat} (hfu : 8 * s.l.length < s.at_ + f) :
    VC Tryd.prog 34 [.pointer (some ⟨x, 0, none⟩), .pointer (some ⟨t, 0, none⟩), .pointer (some ⟨td, 0, none⟩)] w
      (fun v w' => (match symF cnt ord cntD ordD f s with | .error e => BadV w' v e | .ok s' => v = .nilIface ∧ StepV base x rb Ar cr A w w' s') ∧ Keep (fp x rb A) w w') := by
  obtain ⟨F, hF⟩ : ∃ F, F = symF cnt ord cntD ordD f s := ⟨_, rfl⟩
  rw [← hF]
  refine VC.of tt_ok Tryd.func34 rfl (by decide +kernel) (Nat.le_of_ble_eq_true rfl) ?_; (conv => whnf)
  refine VLoop.by_ tt_ok (S := Nat × IS × Option Addr × Nat) (fun | (f, s, A, c) => [(0, .pointer (some ⟨x, 0, none⟩)), (1, .pointer (some ⟨t, 0, none⟩)), (2, .pointer (some ⟨td, 0, none⟩))])
    (fun | (f, s, Ak, ck) => fun w' => Fine s ∧ 8 * s.l.length < s.at_ + f ∧ F = symF cnt ord cntD ordD f s ∧ InfV w' base x rb Ar cr Ak ck s ∧ TblV w' t cnt ord ∧ TblV w' td cntD ordD ∧ (∀ a, Ak = some a → ownS A a.block ∨ w.heap.size ≤ a.block) ∧ Keep (fp x rb A) w w') (fun | (f, _, _, _) => f)
    (f, s, A, c) ⟨rfl, rfl, rfl, trivial⟩ ⟨hf, hfu, hF, h, ht, htd, fun a ha => .inl ⟨a, ha, rfl⟩, Keep.refl _ _⟩ ?_
  clear h ht htd hF hfu hf
  rintro ⟨f, s, Ak, ck⟩ w1 ⟨hf, hfu, hF, h, ht, htd, hat, kp⟩
  have hf0 := hf
  obtain ⟨f1, f2, f3, f4, f5⟩ := hf
  obtain ⟨g, rfl⟩ : ∃ g, f = g + 1 := ⟨f - 1, by omega⟩
  have lift : ∀ {w2 : World}, Keep (fp x rb Ak) w1 w2 → Keep (fp x rb A) w w2 := fun k2 => Keep.andThen kp k2 (fun i hi hs => by
    rcases hs with g | g | ⟨a, ha, e⟩
    · exact .inl g
    · exact .inr (.inl g)
    · rcases hat a ha with g | g
      · exact .inr (.inr (by rw [← e]; exact g))
      · omega)
  have k1f : ∀ {w2 w3 : World}, Keep (fun k => k = rb) w2 w3 → Keep (fp x rb Ak) w2 w3 := fun k => k.mono fun _ _ h => .inr (.inl h)
  have noF : ∀ {w2 w3 : World}, Keep No w2 w3 → Keep (fp x rb Ak) w2 w3 := fun k => k.mono fun _ _ h => h.elim
  obtain ⟨hp1, hp2, hp3⟩ := takeF_pos cnt ord s.l s.at_ f2
  have herr := takeK_err cnt ord s.l 15 1 0 0 0 s.at_
  have hsym := takeK_sym cnt ord s.l hok.2.2 15 1 0 0 0 s.at_
  unfold symF at hF
  obtain ⟨T, hT⟩ : ∃ T, T = takeF cnt ord s.l s.at_ := ⟨_, rfl⟩
  have herr : T.2.1 ≤ 10 := by rw [hT]; exact herr
  have hsym : T.1 < 1000 := by rw [hT]; exact hsym
  rw [← hT] at hF hp1 hp2 hp3
  obtain ⟨y, er, p⟩ := T
  dsimp only at hF hp1 hp2 hp3 herr hsym
  (conv => whnf)
  refine VLoad.by_ (h.1.cell 0) ?_
  (conv => whnf)
  refine (tbTake_ok w1 ht hok.1 hok.2.1 h.2.1 f1 (by omega) (fun a ha => (h.arb a ha).1)).mono ?_
  rintro v w2 ⟨rfl, hr2, k2⟩
  rw [← hT] at hr2
  rw [← hT]
  have h2 := h.move k2 hr2
  dsimp only at hr2 h2
  have kk2 := k1f k2
  have ht2 := ht.keepFp h kk2
  have htd2 := htd.keepFp h kk2
  have hsz := kp.size
  have hsz2 := kk2.size
  (conv => whnf)
  refine VCmp.mk (fun g1 => ?_) (fun g1 => ?_) <;> (conv => whnf)
  · have g1 : (er : Int) ≠ 0 := g1
    rw [if_pos (by omega)] at hF
    subst hF
    refine (bad_ok w2 er (by omega)).mono ?_
    rintro v w3 ⟨hE, k3⟩
    (conv => whnf)
    exact ⟨hE, lift (kk2.trans (noF k3))⟩
  have g1 : ¬ (er : Int) ≠ 0 := g1
  rw [if_neg (by omega)] at hF
  refine VCmp.mk (fun g2 => ?_) (fun g2 => ?_) <;> (conv => whnf)
  · have g2 : (y : Int) = 256 := g2
    rw [if_pos (by omega)] at hF
    subst hF
    exact ⟨⟨rfl, Ak, ck, h2, hat⟩, lift kk2⟩
  have g2 : ¬ (y : Int) = 256 := g2
  rw [if_neg (by omega)] at hF
  refine VCmp.mk (fun g3 => ?_) (fun g3 => ?_) <;> (conv => whnf)
  · have g3 : (256 : Int) < (y : Int) := g3
    rw [if_pos (by omega)] at hF
    have hf2 : Fine { s with at_ := p } := ⟨f1, hp2, f3, f4, f5⟩
    obtain ⟨F1, hF1⟩ : ∃ F1, F1 = copyF cntD ordD { s with at_ := p } y := ⟨_, rfl⟩
    rw [← hF1] at hF
    refine (copies_ok w2 h2 (by omega) hf2 (y := y) (by omega) (by omega) htd2 hokd).mono ?_
    rintro v w3 ⟨hv, k3⟩
    rw [← hF1] at hv
    cases F1 with
    | error e =>
      obtain ⟨eb, he⟩ := hv.form
      subst he
      subst hF
      (conv => whnf)
      exact ⟨hv, lift (kk2.trans k3)⟩
    | ok s3 =>
      obtain ⟨rfl, A3, c3, h3, hat3⟩ := hv
      dsimp only at hF
      obtain ⟨hf3, e1, e2, e3, e4⟩ := copyF_fine hf2 (by omega) hF1.symm
      dsimp only at e1 e4
      (conv => whnf)
      refine ⟨(g, s3, A3, c3), ⟨rfl, rfl, rfl, trivial⟩, ⟨hf3, by rw [e1]; omega, hF, h3, ht2.keepFp h2 k3, htd2.keepFp h2 k3, fun a ha => ?_, lift (kk2.trans k3)⟩, by dsimp only; omega⟩
      rcases hat3 a ha with ⟨a0, h0, e0⟩ | g
      · rcases hat a0 h0 with g | g
        · exact .inl (by rw [← e0]; exact g)
        · exact .inr (by omega)
      · exact .inr (by omega)
  have g3 : ¬ (256 : Int) < (y : Int) := g3
  rw [if_neg (by omega)] at hF
  refine (room_ok w2 h2 f3 (by dsimp only; omega) (by dsimp only; omega) (n := 1) (by omega)).mono ?_
  rintro v w3 ⟨hv, k3⟩
  dsimp only at hv
  have kk3 := kk2.trans (noF k3)
  have h3 := h2.keepNo k3
  by_cases g4 : s.most < s.all.length - s.from_ + 1
  · rw [if_pos g4] at hv
    rw [if_pos g4] at hF
    obtain ⟨eb, he⟩ := hv.form
    subst he
    subst hF
    (conv => whnf)
    exact ⟨hv, lift kk3⟩
  rw [if_neg g4] at hv
  rw [if_neg g4] at hF
  subst hv
  (conv => whnf)
  refine VLoad.by_ (h3.1.cell 1) ?_
  (conv => whnf)
  refine VRes.byte (N := y) rfl ?_
  (conv => whnf)
  refine VFill.by_ rfl ?_; (conv => whnf)
  refine ⟨fun w4 hb4 k4 => ?_⟩
  have h4 := h3.keepNo k4
  have kk4 := kk3.trans (noF k4)
  have hsz4 := kk4.size
  (conv => whnf)
  refine VApp.old8 h4.2.2.1 (ys := [UInt8.ofNat y]) (Sl.ofBlk (n := 1) (size := 1) hb4 rfl) (by omega) (by dsimp only; omega) (by omega) ?_
  intro A6 c6 w6 ho6 k6 _ hat6
  have hx6 := h4.1.keep k6 (fun ⟨a, ha, e⟩ => (h4.aa a ha).2 e)
  (conv => whnf)
  refine VStore.one hx6 (by simp) ?_
  intro w7 hx7 k7 _
  have hg := h4.grown k6 ho6 (by rw [List.length_append]; rfl) hat6 k7 hx7
  have kk7 : Keep (fp x rb Ak) w1 w7 := (kk4.trans (k6.mono fun _ _ h => .inr (.inr h))).trans (k7.mono fun _ _ h => .inl h)
  (conv => whnf)
  refine ⟨(g, { s with at_ := p, all := s.all ++ [UInt8.ofNat y] }, A6, c6), ⟨rfl, rfl, rfl, trivial⟩, ⟨⟨f1, hp2, by dsimp only; rw [List.length_append]; omega, by dsimp only; rw [List.length_append]; simp; omega, f5⟩, by dsimp only; omega, hF, hg, ht.keepFp h kk7, htd.keepFp h kk7, fun a ha => ?_, lift kk7⟩, by dsimp only; omega⟩
  rcases hat6 a ha with ⟨a0, h0, e0⟩ | e0
  · rcases hat a0 h0 with g | g
    · exact .inl (by rw [e0]; exact g)
    · exact .inr (by omega)
  · exact .inr (by omega)

/-! ### The fixed codes -/
def fixV (i : Nat) : Nat := if i < 144 ∨ 280 ≤ i then 8 else if i < 256 then 9 else 7
def fixK : Nat → List Nat
  | 0 => List.replicate 288 0
  | k + 1 => (fixK k).set k (fixV k)
def fixD : Nat → List Nat
  | 0 => List.replicate 32 0
  | k + 1 => (fixD k).set k 5
theorem fixK_len (k : Nat) : (fixK k).length = 288 := by
  induction k with
  | zero => exact List.length_replicate
  | succ k ih => rw [fixK, List.length_set, ih]
theorem fixD_len (k : Nat) : (fixD k).length = 32 := by
  induction k with
  | zero => exact List.length_replicate
  | succ k ih => rw [fixD, List.length_set, ih]
def fixL : List Nat := (List.range 288).map fixV
def fixDL : List Nat := List.replicate 32 5
theorem fixK_all : fixK 288 = fixL := by decide +kernel
theorem fixD_all : fixD 32 = fixDL := by decide +kernel
def fixC : List Nat := cntK fixL 288
def fixO : List Nat := ordA fixL 15
def fixDC : List Nat := cntK fixDL 32
def fixDO : List Nat := ordA fixDL 15
theorem tbOk_of {cnt ord : List Nat} (h : (((List.range 16).all fun n => decide (preK cnt n ≤ ord.length)) && decide (ord.length ≤ 5000) && ord.all fun x => decide (x < 1000)) = true) : TbOk cnt ord := by
  simp only [Bool.and_eq_true, List.all_eq_true, decide_eq_true_eq] at h
  exact ⟨fun n hn => h.1.1 n (List.mem_range.2 (by omega)), h.1.2, h.2⟩
theorem fix_ok : TbOk fixC fixO := tbOk_of (by decide +kernel)
theorem fixD_ok : TbOk fixDC fixDO := tbOk_of (by decide +kernel)

set_option maxRecDepth 100000 in
set_option maxHeartbeats 2000000 in
theorem fixedCodes_ok (w : World) : VC Tryd.prog 33 [] w (fun v w' => (∃ t td, v = .tuple #[.pointer (some ⟨t, 0, none⟩), .pointer (some ⟨td, 0, none⟩)] ∧ TblV w' t fixC fixO ∧ TblV w' td fixDC fixDO) ∧ Keep No w w') := by
  refine VC.of tt_ok Tryd.func33 rfl (by decide +kernel) (Nat.le_of_ble_eq_true rfl) ?_; (conv => whnf)
  refine VDraw.by_ tt_ok rfl (.two 0 (.take 2 (.one 1 (.take 3 .done))) 1 (.one 0 (.take 2 (.take 3 .done)))) (by decide +kernel) _ (fun x h1 h2 h3 h4 => Keep.ofHeap h1 h2 h3 h4) (fun wd hd kd => ?_)
  (conv => whnf)
  refine ⟨?_, ?_⟩
  · refine VMake.row_ (n := 288) (z := nv 0) (bytes := 8) Tryd.underlying107 (by kernel_rfl) rfl (by omega) (by omega) ?_
    intro w1 h288 k1
    have h288_lt := Blk.lt h288
    (conv => whnf)
    refine VOwe.same (kd.trans k1) ?_
    (conv => whnf)
    refine VMake.row_ (n := 32) (z := nv 0) (bytes := 8) Tryd.underlying107 (by kernel_rfl) rfl (by omega) (by omega) ?_
    intro w2 h32 k2
    have h32_lt := Blk.lt h32
    (conv => whnf)
    refine VOwe.same (kd.trans (k1.trans k2)) ?_
    (conv => whnf)
    have h288 := h288.keepNo k2
    have kp := kd.trans (k1.trans k2)
    have kd_sz := kd.size
    have k1_sz := k1.size
    obtain ⟨q, hq⟩ : ∃ q, q = wd.heap.size := ⟨_, rfl⟩
    obtain ⟨qd, hqd⟩ : ∃ q, q = w1.heap.size := ⟨_, rfl⟩
    rw [← hq] at h288
    rw [← hqd] at h32
    rw [← hq, ← hqd]
    have h288 : Blk w2 q TId ((fixK 0).map nv) := by rw [fixK, List.map_replicate]; exact h288
    have h32 : Blk w2 qd TId ((fixD 0).map nv) := by rw [fixD, List.map_replicate]; exact h32
    have b1 : w.heap.size ≤ q := by omega
    have b2 : w.heap.size ≤ qd := by omega
    have hne : q ≠ qd := by omega
    clear hq hqd h288_lt h32_lt
    refine VLoop.by_ tt_ok (S := Nat) (fun k => [(2, .slice (some ⟨q, 0, none⟩) 288 288), (3, .slice (some ⟨qd, 0, none⟩) 32 32), (13, .int .i64 288), (14, .int .i64 k)])
      (fun k w' => k ≤ 288 ∧ Blk w' q TId ((fixK k).map nv) ∧ Blk w' qd TId ((fixD 0).map nv) ∧ Keep No w w') (fun k => 288 - k) 0
      ⟨rfl, rfl, rfl, rfl, trivial⟩ ⟨by omega, h288, h32, kp⟩ ?_
    rintro k w3 ⟨hk, h288, h32, kp⟩
    have hfl := fixK_len k
    (conv => whnf)
    refine VCmp.mk (fun g => ?_) (fun g => ?_) <;> (conv => whnf)
    · refine VCmp.mk (fun g1 => ?_) (fun g1 => ?_) <;> (conv => whnf)
      · have e : fixV k = 8 := by unfold fixV; rw [if_pos (by omega)]
        refine VIdx.one k rfl (by omega) rfl ?_
        (conv => whnf)
        refine VStore.one h288 (by rw [List.length_map]; omega) ?_
        intro w4 h4 k4 _
        (conv => whnf)
        refine VRes.i64 (by omega) ?_; (conv => whnf)
        exact ⟨k + 1, ⟨rfl, rfl, rfl, rfl, trivial⟩, ⟨by omega, by rw [fixK, e, List.map_set]; simpa [nv] using h4, h32.keep k4 (fun e => hne e.symm), kp.fresh_ k4 b1⟩, by omega⟩
      refine VCmp.mk (fun g2 => ?_) (fun g2 => ?_) <;> (conv => whnf)
      · have e : fixV k = 8 := by unfold fixV; rw [if_pos (by omega)]
        refine VIdx.one k rfl (by omega) rfl ?_
        (conv => whnf)
        refine VStore.one h288 (by rw [List.length_map]; omega) ?_
        intro w4 h4 k4 _
        (conv => whnf)
        refine VRes.i64 (by omega) ?_; (conv => whnf)
        exact ⟨k + 1, ⟨rfl, rfl, rfl, rfl, trivial⟩, ⟨by omega, by rw [fixK, e, List.map_set]; simpa [nv] using h4, h32.keep k4 (fun e => hne e.symm), kp.fresh_ k4 b1⟩, by omega⟩
      refine VCmp.mk (fun g3 => ?_) (fun g3 => ?_) <;> (conv => whnf)
      · have e : fixV k = 9 := by unfold fixV; rw [if_neg (by omega), if_pos (by omega)]
        refine VIdx.one k rfl (by omega) rfl ?_
        (conv => whnf)
        refine VStore.one h288 (by rw [List.length_map]; omega) ?_
        intro w4 h4 k4 _
        (conv => whnf)
        refine VRes.i64 (by omega) ?_; (conv => whnf)
        exact ⟨k + 1, ⟨rfl, rfl, rfl, rfl, trivial⟩, ⟨by omega, by rw [fixK, e, List.map_set]; simpa [nv] using h4, h32.keep k4 (fun e => hne e.symm), kp.fresh_ k4 b1⟩, by omega⟩
      have e : fixV k = 7 := by unfold fixV; rw [if_neg (by omega), if_neg (by omega)]
      refine VIdx.one k rfl (by omega) rfl ?_
      (conv => whnf)
      refine VStore.one h288 (by rw [List.length_map]; omega) ?_
      intro w4 h4 k4 _
      (conv => whnf)
      refine VRes.i64 (by omega) ?_; (conv => whnf)
      exact ⟨k + 1, ⟨rfl, rfl, rfl, rfl, trivial⟩, ⟨by omega, by rw [fixK, e, List.map_set]; simpa [nv] using h4, h32.keep k4 (fun e => hne e.symm), kp.fresh_ k4 b1⟩, by omega⟩
    obtain rfl : k = 288 := by omega
    rw [fixK_all] at h288
    refine VLoop.by_ tt_ok (S := Nat) (fun k => [(2, .slice (some ⟨q, 0, none⟩) 288 288), (3, .slice (some ⟨qd, 0, none⟩) 32 32), (36, .int .i64 32), (37, .int .i64 k)])
      (fun k w' => k ≤ 32 ∧ Blk w' q TId (fixL.map nv) ∧ Blk w' qd TId ((fixD k).map nv) ∧ Keep No w w') (fun k => 32 - k) 0
      ⟨rfl, rfl, rfl, rfl, trivial⟩ ⟨by omega, h288, h32, kp⟩ ?_
    clear h288 h32 kp
    rintro k w4 ⟨hk, h288, h32, kp⟩
    have hfl := fixD_len k
    (conv => whnf)
    refine VCmp.mk (fun g => ?_) (fun g => ?_) <;> (conv => whnf)
    · refine VIdx.one k rfl (by omega) rfl ?_
      (conv => whnf)
      refine VStore.one h32 (by rw [List.length_map]; omega) ?_
      intro w5 h5 k5 _
      (conv => whnf)
      refine VRes.i64 (by omega) ?_; (conv => whnf)
      exact ⟨k + 1, ⟨rfl, rfl, rfl, rfl, trivial⟩, ⟨by omega, h288.keep k5 hne, by rw [fixD, List.map_set]; simpa [nv] using h5, kp.fresh_ k5 b2⟩, by omega⟩
    obtain rfl : k = 32 := by omega
    rw [fixD_all] at h32
    refine (tbNew_ok w4 (n := 288) (lens := fixL) (Sl.ofBlk (n := 288) (size := 1) h288 (by decide +kernel)) (by omega) (by decide +kernel)).mono ?_
    rintro v w5 ⟨hv, k5⟩
    rw [if_pos (by decide +kernel)] at hv
    obtain ⟨t, rfl, ht⟩ := hv
    (conv => whnf)
    refine (tbNew_ok w5 (n := 32) (lens := fixDL) (Sl.ofBlk (n := 32) (size := 1) (h32.keepNo k5) (by decide +kernel)) (by omega) (by decide +kernel)).mono ?_
    rintro v w6 ⟨hv, k6⟩
    rw [if_pos (by decide +kernel)] at hv
    obtain ⟨td, rfl, htd⟩ := hv
    (conv => whnf)
    exact ⟨⟨t, td, rfl, ht.keepNo k6, htd⟩, (kp.trans k5).trans k6⟩
  · refine VMake.row_ (n := 32) (z := nv 0) (bytes := 8) Tryd.underlying107 (by kernel_rfl) rfl (by omega) (by omega) ?_
    intro w1 h32 k1
    have h32_lt := Blk.lt h32
    (conv => whnf)
    refine VOwe.same (kd.trans k1) ?_
    (conv => whnf)
    refine VMake.row_ (n := 288) (z := nv 0) (bytes := 8) Tryd.underlying107 (by kernel_rfl) rfl (by omega) (by omega) ?_
    intro w2 h288 k2
    have h288_lt := Blk.lt h288
    (conv => whnf)
    refine VOwe.same (kd.trans (k1.trans k2)) ?_
    (conv => whnf)
    have h32 := h32.keepNo k2
    have kp := kd.trans (k1.trans k2)
    have kd_sz := kd.size
    have k1_sz := k1.size
    obtain ⟨q, hq⟩ : ∃ q, q = w1.heap.size := ⟨_, rfl⟩
    obtain ⟨qd, hqd⟩ : ∃ q, q = wd.heap.size := ⟨_, rfl⟩
    rw [← hq] at h288
    rw [← hqd] at h32
    rw [← hq, ← hqd]
    have h288 : Blk w2 q TId ((fixK 0).map nv) := by rw [fixK, List.map_replicate]; exact h288
    have h32 : Blk w2 qd TId ((fixD 0).map nv) := by rw [fixD, List.map_replicate]; exact h32
    have b1 : w.heap.size ≤ q := by omega
    have b2 : w.heap.size ≤ qd := by omega
    have hne : q ≠ qd := by omega
    clear hq hqd h288_lt h32_lt
    refine VLoop.by_ tt_ok (S := Nat) (fun k => [(2, .slice (some ⟨q, 0, none⟩) 288 288), (3, .slice (some ⟨qd, 0, none⟩) 32 32), (13, .int .i64 288), (14, .int .i64 k)])
      (fun k w' => k ≤ 288 ∧ Blk w' q TId ((fixK k).map nv) ∧ Blk w' qd TId ((fixD 0).map nv) ∧ Keep No w w') (fun k => 288 - k) 0
      ⟨rfl, rfl, rfl, rfl, trivial⟩ ⟨by omega, h288, h32, kp⟩ ?_
    rintro k w3 ⟨hk, h288, h32, kp⟩
    have hfl := fixK_len k
    (conv => whnf)
    refine VCmp.mk (fun g => ?_) (fun g => ?_) <;> (conv => whnf)
    · refine VCmp.mk (fun g1 => ?_) (fun g1 => ?_) <;> (conv => whnf)
      · have e : fixV k = 8 := by unfold fixV; rw [if_pos (by omega)]
        refine VIdx.one k rfl (by omega) rfl ?_
        (conv => whnf)
        refine VStore.one h288 (by rw [List.length_map]; omega) ?_
        intro w4 h4 k4 _
        (conv => whnf)
        refine VRes.i64 (by omega) ?_; (conv => whnf)
        exact ⟨k + 1, ⟨rfl, rfl, rfl, rfl, trivial⟩, ⟨by omega, by rw [fixK, e, List.map_set]; simpa [nv] using h4, h32.keep k4 (fun e => hne e.symm), kp.fresh_ k4 b1⟩, by omega⟩
      refine VCmp.mk (fun g2 => ?_) (fun g2 => ?_) <;> (conv => whnf)
      · have e : fixV k = 8 := by unfold fixV; rw [if_pos (by omega)]
        refine VIdx.one k rfl (by omega) rfl ?_
        (conv => whnf)
        refine VStore.one h288 (by rw [List.length_map]; omega) ?_
        intro w4 h4 k4 _
        (conv => whnf)
        refine VRes.i64 (by omega) ?_; (conv => whnf)
        exact ⟨k + 1, ⟨rfl, rfl, rfl, rfl, trivial⟩, ⟨by omega, by rw [fixK, e, List.map_set]; simpa [nv] using h4, h32.keep k4 (fun e => hne e.symm), kp.fresh_ k4 b1⟩, by omega⟩
      refine VCmp.mk (fun g3 => ?_) (fun g3 => ?_) <;> (conv => whnf)
      · have e : fixV k = 9 := by unfold fixV; rw [if_neg (by omega), if_pos (by omega)]
        refine VIdx.one k rfl (by omega) rfl ?_
        (conv => whnf)
        refine VStore.one h288 (by rw [List.length_map]; omega) ?_
        intro w4 h4 k4 _
        (conv => whnf)
        refine VRes.i64 (by omega) ?_; (conv => whnf)
        exact ⟨k + 1, ⟨rfl, rfl, rfl, rfl, trivial⟩, ⟨by omega, by rw [fixK, e, List.map_set]; simpa [nv] using h4, h32.keep k4 (fun e => hne e.symm), kp.fresh_ k4 b1⟩, by omega⟩
      have e : fixV k = 7 := by unfold fixV; rw [if_neg (by omega), if_neg (by omega)]
      refine VIdx.one k rfl (by omega) rfl ?_
      (conv => whnf)
      refine VStore.one h288 (by rw [List.length_map]; omega) ?_
      intro w4 h4 k4 _
      (conv => whnf)
      refine VRes.i64 (by omega) ?_; (conv => whnf)
      exact ⟨k + 1, ⟨rfl, rfl, rfl, rfl, trivial⟩, ⟨by omega, by rw [fixK, e, List.map_set]; simpa [nv] using h4, h32.keep k4 (fun e => hne e.symm), kp.fresh_ k4 b1⟩, by omega⟩
    obtain rfl : k = 288 := by omega
    rw [fixK_all] at h288
    refine VLoop.by_ tt_ok (S := Nat) (fun k => [(2, .slice (some ⟨q, 0, none⟩) 288 288), (3, .slice (some ⟨qd, 0, none⟩) 32 32), (36, .int .i64 32), (37, .int .i64 k)])
      (fun k w' => k ≤ 32 ∧ Blk w' q TId (fixL.map nv) ∧ Blk w' qd TId ((fixD k).map nv) ∧ Keep No w w') (fun k => 32 - k) 0
      ⟨rfl, rfl, rfl, rfl, trivial⟩ ⟨by omega, h288, h32, kp⟩ ?_
    clear h288 h32 kp
    rintro k w4 ⟨hk, h288, h32, kp⟩
    have hfl := fixD_len k
    (conv => whnf)
    refine VCmp.mk (fun g => ?_) (fun g => ?_) <;> (conv => whnf)
    · refine VIdx.one k rfl (by omega) rfl ?_
      (conv => whnf)
      refine VStore.one h32 (by rw [List.length_map]; omega) ?_
      intro w5 h5 k5 _
      (conv => whnf)
      refine VRes.i64 (by omega) ?_; (conv => whnf)
      exact ⟨k + 1, ⟨rfl, rfl, rfl, rfl, trivial⟩, ⟨by omega, h288.keep k5 hne, by rw [fixD, List.map_set]; simpa [nv] using h5, kp.fresh_ k5 b2⟩, by omega⟩
    obtain rfl : k = 32 := by omega
    rw [fixD_all] at h32
    refine (tbNew_ok w4 (n := 288) (lens := fixL) (Sl.ofBlk (n := 288) (size := 1) h288 (by decide +kernel)) (by omega) (by decide +kernel)).mono ?_
    rintro v w5 ⟨hv, k5⟩
    rw [if_pos (by decide +kernel)] at hv
    obtain ⟨t, rfl, ht⟩ := hv
    (conv => whnf)
    refine (tbNew_ok w5 (n := 32) (lens := fixDL) (Sl.ofBlk (n := 32) (size := 1) (h32.keepNo k5) (by decide +kernel)) (by omega) (by decide +kernel)).mono ?_
    rintro v w6 ⟨hv, k6⟩
    rw [if_pos (by decide +kernel)] at hv
    obtain ⟨td, rfl, htd⟩ := hv
    (conv => whnf)
    exact ⟨⟨t, td, rfl, ht.keepNo k6, htd⟩, (kp.trans k5).trans k6⟩
end Go.Proofs.YtgmopcbfgcagaaaDoor
