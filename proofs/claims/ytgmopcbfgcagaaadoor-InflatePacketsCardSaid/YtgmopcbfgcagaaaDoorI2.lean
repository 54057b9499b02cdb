/-
  Package inflate: the reader: some bits, room, a stored block.
-/
import Derived.Test.YtgmopcbfgcagaaaDoorI1
import Derived.Test.YtgmopcbfgcagaaaDoorIa
namespace Go.Proofs.YtgmopcbfgcagaaaDoor
open Go V

abbrev TRe : TypeId := 57
structure IS where
  l : List UInt8
  at_ : Nat
  all : List UInt8
  from_ : Nat
  most : Nat
def InfV (w : World) (base x rb : Nat) (Ar : Option Addr) (cr : Nat) (A : Option Addr) (c : Nat) (s : IS) : Prop :=
  Blk w x TRe [.pointer (some ⟨rb, 0, none⟩), .slice A s.all.length c, .int .i64 s.from_, .int .i64 s.most] ∧ RdV w rb Ar cr s.l s.at_ ∧ Own w base T8 1 A s.all.length c (s.all.map vb) ∧ base ≤ x ∧ base ≤ rb ∧
    (∀ a, Ar = some a → base ≤ a.block ∧ Ty w a.block T8 ∧ ∀ a', A = some a' → a.block ≠ a'.block)
/-- What a step of the reader may turn. -/
def fp (x rb : Nat) (A : Option Addr) (k : Nat) : Prop := k = x ∨ k = rb ∨ ownS A k
theorem InfV.keep {S : Nat → Prop} {w w' : World} {base x rb : Nat} {Ar : Option Addr} {cr : Nat} {A : Option Addr} {c : Nat} {s : IS} (h : InfV w base x rb Ar cr A c s) (k : Keep S w w') (h1 : ¬ S x) (h2 : ¬ S rb) (h3 : ∀ i, ownS A i → ¬ S i) (h4 : ∀ i, ownS Ar i → ¬ S i) : InfV w' base x rb Ar cr A c s :=
  ⟨h.1.keep k h1, h.2.1.keep k h2 (fun a ha => h4 _ ⟨a, ha, rfl⟩), h.2.2.1.keep k (fun a ha => h3 _ ⟨a, ha, rfl⟩), h.2.2.2.1, h.2.2.2.2.1, fun a ha => by
    obtain ⟨g1, g2, g3⟩ := h.2.2.2.2.2 a ha
    exact ⟨g1, g2.keep k (h4 _ ⟨a, ha, rfl⟩), g3⟩⟩
theorem InfV.keepNo {w w' : World} {base x rb : Nat} {Ar : Option Addr} {cr : Nat} {A : Option Addr} {c : Nat} {s : IS} (h : InfV w base x rb Ar cr A c s) (k : Keep No w w') : InfV w' base x rb Ar cr A c s :=
  h.keep k id id (fun _ _ => id) (fun _ _ => id)
theorem InfV.nerb {w : World} {base x rb : Nat} {Ar : Option Addr} {cr : Nat} {A : Option Addr} {c : Nat} {s : IS} (h : InfV w base x rb Ar cr A c s) : x ≠ rb := h.1.ne h.2.1.1 (by decide)
theorem InfV.arb {w : World} {base x rb : Nat} {Ar : Option Addr} {cr : Nat} {A : Option Addr} {c : Nat} {s : IS} (h : InfV w base x rb Ar cr A c s) : ∀ a, Ar = some a → a.block ≠ rb ∧ a.block ≠ x := fun a ha =>
  ⟨(h.2.2.2.2.2 a ha).2.1.ne h.2.1.1.ty (by decide), (h.2.2.2.2.2 a ha).2.1.ne h.1.ty (by decide)⟩
theorem InfV.aa {w : World} {base x rb : Nat} {Ar : Option Addr} {cr : Nat} {A : Option Addr} {c : Nat} {s : IS} (h : InfV w base x rb Ar cr A c s) : ∀ a, A = some a → a.block ≠ rb ∧ a.block ≠ x := fun a ha =>
  ⟨(h.2.2.1.ty ha).ne h.2.1.1.ty (by decide), (h.2.2.1.ty ha).ne h.1.ty (by decide)⟩
/-- The same but for the place in the bits. -/
theorem InfV.move {w w' : World} {base x rb : Nat} {Ar : Option Addr} {cr : Nat} {A : Option Addr} {c : Nat} {s : IS} (h : InfV w base x rb Ar cr A c s) (k : Keep (fun k => k = rb) w w') {p : Nat} (hr : RdV w' rb Ar cr s.l p) : InfV w' base x rb Ar cr A c { s with at_ := p } :=
  ⟨h.1.keep k (fun e => h.nerb e), hr, h.2.2.1.keep k (fun a ha e => (h.aa a ha).1 e), h.2.2.2.1, h.2.2.2.2.1, fun a ha => by
    obtain ⟨g1, g2, g3⟩ := h.2.2.2.2.2 a ha
    exact ⟨g1, g2.keep k (fun e => (h.arb a ha).1 e), g3⟩⟩
/-- An error around a number, not none. -/
def BadV (w : World) (v : Value) (e : Nat) : Prop := ErrV w 0 v e ∧ v ≠ .nilIface
theorem BadV.keepNo {w w' : World} {v : Value} {e : Nat} (h : BadV w v e) (k : Keep No w w') : BadV w' v e := ⟨h.1.keepNo k, h.2⟩
theorem bad_ok (w : World) (k : Nat) (hk : k ≠ 0) : VC Tryd.prog 35 [.int .i64 k] w (fun v w' => BadV w' v k ∧ Keep No w w') := by
  refine (fault_ok w k (by omega)).mono ?_
  rintro v w1 ⟨h1, h2, h3⟩
  refine ⟨⟨?_, h2⟩, h3⟩
  rcases h1 with h | ⟨b, g1, g2, g3, _⟩
  · exact .inl h
  · exact .inr ⟨b, g1, g2, g3, Nat.zero_le _⟩
theorem BadV.form {w : World} {v : Value} {e : Nat} (h : BadV w v e) : ∃ b, v = .iface TFltP (.pointer (some ⟨b, 0, none⟩)) := by
  rcases h.1 with ⟨h1, _⟩ | ⟨b, h1, _⟩
  · exact absurd h1 h.2
  · exact ⟨b, h1⟩

theorem iTake_ok (w : World) {base x rb : Nat} {Ar : Option Addr} {cr : Nat} {A : Option Addr} {c : Nat} {s : IS} (h : InfV w base x rb Ar cr A c s) (hn : s.l.length ≤ 1000000) (ha : s.at_ ≤ 100000000) {n : Nat} (h32 : n ≤ 32) :
    VC Tryd.prog 30 [.pointer (some ⟨x, 0, none⟩), .int .i64 n] w
      (fun v w' => (if s.at_ + n ≤ 8 * s.l.length then v = .tuple #[.int .i64 (numL s.l s.at_ n : Nat), .nilIface] ∧ InfV w' base x rb Ar cr A c { s with at_ := s.at_ + n } else ∃ E, v = .tuple #[.int .i64 0, E] ∧ BadV w' E 2) ∧ Keep (fun k => k = rb) w w') := by
  refine VC.of tt_ok Tryd.func30 rfl (by decide +kernel) (Nat.le_of_ble_eq_true rfl) ?_; (conv => whnf)
  refine VLoad.by_ (h.1.cell 0) ?_
  (conv => whnf)
  refine (rdTake_ok w h.2.1 (by omega) (by omega) h32 (fun a ha => (h.arb a ha).1)).mono ?_
  rintro v w1 hv
  by_cases hle : s.at_ + n ≤ 8 * s.l.length
  · rw [if_pos hle] at hv
    obtain ⟨rfl, hr, k1⟩ := hv
    (conv => whnf)
    rw [if_pos hle]
    exact ⟨⟨rfl, h.move k1 hr⟩, k1⟩
  · rw [if_neg hle] at hv
    obtain ⟨rfl, k1⟩ := hv
    (conv => whnf)
    refine (bad_ok w1 2 (by omega)).mono ?_
    rintro v w2 ⟨hE, k2⟩
    (conv => whnf)
    rw [if_neg hle]
    exact ⟨⟨v, rfl, hE⟩, (k1.trans k2).mono fun _ _ h => h.elim⟩

theorem room_ok (w : World) {base x rb : Nat} {Ar : Option Addr} {cr : Nat} {A : Option Addr} {c : Nat} {s : IS} (h : InfV w base x rb Ar cr A c s) (hf : s.from_ ≤ s.all.length) (hal : s.all.length ≤ 100000000) (hm : s.most ≤ 100000000) {n : Nat} (hn : n ≤ 100000000) :
    VC Tryd.prog 48 [.pointer (some ⟨x, 0, none⟩), .int .i64 n] w (fun v w' => (if s.most < s.all.length - s.from_ + n then BadV w' v 3 else v = .nilIface) ∧ Keep No w w') := by
  refine VC.of tt_ok Tryd.func48 rfl (by decide +kernel) (Nat.le_of_ble_eq_true rfl) ?_; (conv => whnf)
  refine VDraw.by_ tt_ok rfl (.take 0 (.take 1 (.take 2 (.take 3 (.take 4 (.take 5 (.take 6 (.take 7 (.take 8 (.take 9 (.take 10 (.take 11 (.take 12 (.take 13 (.take 14 (.take 15 (.take 16 .done))))))))))))))))) (by decide +kernel) _ (fun x h1 h2 h3 h4 => Keep.ofHeap h1 h2 h3 h4) (fun wd hd kd => ?_)
  (conv => whnf)
  refine VLoad.keep (h.1.cell 3) ?_
  (conv => whnf)
  refine VLoad.keep (h.1.cell 1) ?_
  (conv => whnf)
  refine VLoad.keep (h.1.cell 2) ?_
  (conv => whnf)
  refine VRes.i64 (by omega) ?_; (conv => whnf)
  refine VRes.i64 (by omega) ?_; (conv => whnf)
  refine VCmp.mk (fun h2 => ?_) (fun h2 => ?_) <;> (conv => whnf)
  · refine (bad_ok wd 3 (by omega)).mono ?_
    rintro v w2 ⟨hE, k2⟩
    (conv => whnf)
    rw [if_pos (by omega)]
    exact ⟨hE, kd.trans k2⟩
  · rw [if_neg (by omega)]
    exact ⟨rfl, kd⟩

/-- A stored block, from the place behind its kind. -/
def plainF (s : IS) : Except Nat (IS × Bool) :=
  if 8 * s.l.length < alignP s.at_ + 16 then .error 2 else
  if 8 * s.l.length < alignP s.at_ + 32 then .error 2 else
  if numL s.l (alignP s.at_) 16 ^^^ numL s.l (alignP s.at_ + 16) 16 ≠ 65535 then .error 10 else
  if alignP s.at_ / 8 + 4 + numL s.l (alignP s.at_) 16 ≤ s.l.length then
    if s.most < s.all.length - s.from_ + numL s.l (alignP s.at_) 16 then .error 3 else
    .ok ({ s with at_ := 8 * (alignP s.at_ / 8 + 4 + numL s.l (alignP s.at_) 16), all := s.all ++ (s.l.take (alignP s.at_ / 8 + 4 + numL s.l (alignP s.at_) 16)).drop (alignP s.at_ / 8 + 4) }, numL s.l (alignP s.at_) 16 == 0)
  else if s.most < s.all.length - s.from_ + (s.l.length - (alignP s.at_ / 8 + 4)) then .error 3 else .error 2

/-- What a step of the reader leaves: an error, or the reader turned. -/
def StepV (base x rb : Nat) (Ar : Option Addr) (cr : Nat) (A : Option Addr) (w w' : World) (s' : IS) : Prop :=
  ∃ A' c', InfV w' base x rb Ar cr A' c' s' ∧ ∀ a, A' = some a → ownS A a.block ∨ w.heap.size ≤ a.block

set_option maxHeartbeats 2000000 in
theorem plain_ok (w : World) {base x rb : Nat} {Ar : Option Addr} {cr : Nat} {A : Option Addr} {c : Nat} {s : IS} (h : InfV w base x rb Ar cr A c s) (hb : base ≤ w.heap.size) (hn : s.l.length ≤ 1000000) (ha : s.at_ ≤ 10000000) (hf : s.from_ ≤ s.all.length) (hal : s.all.length ≤ 10000000) (hm : s.most ≤ 10000000) :
    VC Tryd.prog 31 [.pointer (some ⟨x, 0, none⟩)] w
      (fun v w' => (match plainF s with | .error e => ∃ E, v = .tuple #[.bool false, E] ∧ BadV w' E e | .ok (s', z) => v = .tuple #[.bool z, .nilIface] ∧ StepV base x rb Ar cr A w w' s') ∧ Keep (fp x rb A) w w') := by
  obtain ⟨p, hp⟩ : ∃ p, p = alignP s.at_ / 8 := ⟨_, rfl⟩
  have hp8 : alignP s.at_ = 8 * p := by rw [hp]; unfold alignP; omega
  have hpb : p ≤ 1250001 := by rw [hp]; unfold alignP; omega
  obtain ⟨N, hN⟩ : ∃ N, N = numL s.l (8 * p) 16 := ⟨_, rfl⟩
  obtain ⟨M, hM⟩ : ∃ M, M = numL s.l (8 * p + 16) 16 := ⟨_, rfl⟩
  have hN16 : N < 65536 := by rw [hN]; exact numL_lt _ _ 16
  have hM16 : M < 65536 := by rw [hM]; exact numL_lt _ _ 16
  obtain ⟨F, hF⟩ : ∃ F, F = plainF s := ⟨_, rfl⟩
  rw [← hF]
  unfold plainF at hF
  rw [hp8, ← hN, ← hM, show 8 * p / 8 = p from by omega] at hF
  have k1f : ∀ {w1 w2 : World}, Keep (fun k => k = rb) w1 w2 → Keep (fp x rb A) w1 w2 := fun k => k.mono fun _ _ h => .inr (.inl h)
  have noF : ∀ {w1 w2 : World}, Keep No w1 w2 → Keep (fp x rb A) w1 w2 := fun k => k.mono fun _ _ h => h.elim
  refine VC.of tt_ok Tryd.func31 rfl (by decide +kernel) (Nat.le_of_ble_eq_true rfl) ?_; (conv => whnf)
  refine VLoad.by_ (h.1.cell 0) ?_
  (conv => whnf)
  refine (rdAlign_ok w h.2.1 (by omega) (fun a ha => (h.arb a ha).1)).mono ?_
  rintro v w1 ⟨rfl, hr1, k1⟩
  have h1 := h.move k1 hr1
  rw [hp8] at h1
  have kp := k1f k1
  (conv => whnf)
  refine (iTake_ok w1 h1 hn (by dsimp only; omega) (n := 16) (by omega)).mono ?_
  rintro v w2 ⟨hv, k2⟩
  have kp := kp.trans (k1f k2)
  dsimp only at hv
  by_cases g1 : 8 * s.l.length < 8 * p + 16
  · rw [if_neg (by omega)] at hv
    obtain ⟨E, rfl, hE⟩ := hv
    obtain ⟨eb, he⟩ := hE.form
    subst he
    rw [if_pos g1] at hF
    subst hF
    (conv => whnf)
    exact ⟨⟨_, rfl, hE⟩, kp⟩
  rw [if_pos (by omega), ← hN] at hv
  rw [if_neg g1] at hF
  obtain ⟨rfl, h2⟩ := hv
  (conv => whnf)
  refine (iTake_ok w2 h2 hn (by dsimp only; omega) (n := 16) (by omega)).mono ?_
  rintro v w3 ⟨hv, k3⟩
  have kp := kp.trans (k1f k3)
  dsimp only at hv
  by_cases g2 : 8 * s.l.length < 8 * p + 32
  · rw [if_neg (by omega)] at hv
    obtain ⟨E, rfl, hE⟩ := hv
    obtain ⟨eb, he⟩ := hE.form
    subst he
    rw [if_pos g2] at hF
    subst hF
    (conv => whnf)
    exact ⟨⟨_, rfl, hE⟩, kp⟩
  rw [if_pos (by omega), ← hM] at hv
  rw [if_neg g2] at hF
  obtain ⟨rfl, h3⟩ := hv
  (conv => whnf)
  refine VRes.xorNat (N := N) (M := M) (R := N ^^^ M) rfl rfl (by omega) (by omega) rfl ?_
  (conv => whnf)
  refine VCmp.mk (fun g3 => ?_) (fun g3 => ?_) <;> (conv => whnf)
  · rw [if_pos (by omega)] at hF
    subst hF
    refine (bad_ok w3 10 (by omega)).mono ?_
    rintro v w4 ⟨hE, k4⟩
    (conv => whnf)
    exact ⟨⟨_, rfl, hE⟩, kp.trans (noF k4)⟩
  rw [if_neg (by omega)] at hF
  refine VLoad.by_ (h3.1.cell 0) ?_
  (conv => whnf)
  have hr3 : RdV w3 rb Ar cr s.l (8 * (p + 4)) := by
    have := h3.2.1
    dsimp only at this
    rwa [show 8 * p + 16 + 16 = 8 * (p + 4) from by omega] at this
  refine (rdBytes_ok w3 (p := p + 4) (n := N) hr3 (by omega) (by omega) (by omega) (fun a ha => (h3.arb a ha).1)).mono ?_
  rintro v w4 ⟨hv, k4⟩
  have kp := kp.trans (k1f k4)
  by_cases g4 : p + 4 + N ≤ s.l.length
  · rw [if_pos g4] at hv
    rw [if_pos g4] at hF
    obtain ⟨⟨Ab, cb, rfl, hob⟩, hr4⟩ := hv
    have h4 : InfV w4 base x rb Ar cr A c { s with at_ := 8 * (p + 4 + N) } := h3.move k4 hr4
    (conv => whnf)
    refine (room_ok w4 h4 hf (by dsimp only; omega) (by dsimp only; omega) (n := N) (by omega)).mono ?_
    rintro v w5 ⟨hv, k5⟩
    have kp := kp.trans (noF k5)
    have h5 := h4.keepNo k5
    dsimp only at hv
    by_cases g5 : s.most < s.all.length - s.from_ + N
    · rw [if_pos g5] at hv
      rw [if_pos g5] at hF
      obtain ⟨eb, he⟩ := hv.form
      subst he
      subst hF
      (conv => whnf)
      exact ⟨⟨_, rfl, hv⟩, kp⟩
    rw [if_neg g5] at hv
    rw [if_neg g5] at hF
    subst hv
    subst hF
    (conv => whnf)
    refine VLoad.by_ (h5.1.cell 1) ?_
    (conv => whnf)
    have hsz := kp.size
    refine VApp.own tt_ok (it := ty22) (ei := ty5) rfl rfl rfl (size := 1) rfl rfl (by omega) h5.2.2.1 (Sl.ofOwn (hob.keepNo k5)) (one8 _) (by show (s.all.length + N) * 1 ≤ _; omega) (by show s.all.length + N ≤ _; omega) (by omega) ?_
    intro A6 c6 w6 ho6 k6 hat
    have hx6 := h5.1.keep k6 (fun ⟨a, ha, e⟩ => (h5.aa a ha).2 e)
    have hr6 := h5.2.1.keep k6 (fun ⟨a, ha, e⟩ => (h5.aa a ha).1 e) (fun a ha ⟨a', ha', e⟩ => (h5.2.2.2.2.2 a ha).2.2 a' ha' e.symm)
    have hA6 : ∀ a, Ar = some a → base ≤ a.block ∧ Ty w6 a.block T8 ∧ ∀ a', A6 = some a' → a.block ≠ a'.block := by
      intro a ha
      obtain ⟨g1, g2, g3⟩ := h5.2.2.2.2.2 a ha
      refine ⟨g1, g2.keep k6 (fun ⟨a', ha', e⟩ => g3 a' ha' e.symm), fun a' ha' e => ?_⟩
      rcases hat a' ha' with ⟨a0, h0, e0⟩ | e0
      · exact g3 a0 h0 (by rw [e, e0])
      · have := g2.lt
        omega
    have kp := kp.trans (k6.mono fun _ _ h => .inr (.inr h))
    have hlen : s.all.length + N = (s.all ++ (s.l.take (p + 4 + N)).drop (p + 4)).length := by
      rw [List.length_append, List.length_drop, List.length_take]; omega
    (conv => whnf)
    refine VStore.one hx6 (by simp) ?_
    intro w7 hx7 k7 _
    have kp := kp.trans (k7.mono fun _ _ h => .inl h)
    have hne6 : ∀ a, A6 = some a → a.block ≠ x := fun a ha => (ho6.ty ha).ne hx6.ty (by decide)
    (conv => whnf)
    have hz : (if (N : Int) = 0 then true else false) = (N == 0) := by
      by_cases h0 : N = 0
      · subst h0; rfl
      · rw [if_neg (by omega)]; simp [h0]
    have fin : StepV base x rb Ar cr A w w7 { s with at_ := 8 * (p + 4 + N), all := s.all ++ (s.l.take (p + 4 + N)).drop (p + 4) } := by
      refine ⟨A6, c6, ⟨by rw [← hlen]; exact hx7, hr6.keep k7 (fun e => h.nerb e.symm) (fun a ha e => (h5.arb a ha).2 e), by rw [← hlen, List.map_append]; exact ho6.keep k7 (fun a ha e => hne6 a ha e), h.2.2.2.1, h.2.2.2.2.1, fun a ha => ?_⟩, fun a ha => ?_⟩
      · obtain ⟨g1, g2, g3⟩ := hA6 a ha
        exact ⟨g1, g2.keep k7 (fun e => (h5.arb a ha).2 e), g3⟩
      · rcases hat a ha with ⟨a0, h0, e0⟩ | e0
        · exact .inl ⟨a0, h0, e0.symm⟩
        · exact .inr (by omega)
    refine VCmp.mk (fun h0 => ?_) (fun h0 => ?_) <;> (conv => whnf)
    · have hN0 : (N == 0) = true := by simp; omega
      rw [hN0]
      exact ⟨⟨rfl, fin⟩, kp⟩
    · have hN0 : (N == 0) = false := by simp; omega
      rw [hN0]
      exact ⟨⟨rfl, fin⟩, kp⟩
  · rw [if_neg g4] at hv
    rw [if_neg g4] at hF
    obtain ⟨rfl, hr4⟩ := hv
    have h4 : InfV w4 base x rb Ar cr A c { s with at_ := 8 * (p + 4) } := h3.move k4 hr4
    (conv => whnf)
    refine VLoad.by_ (h4.1.cell 0) ?_
    (conv => whnf)
    refine (rdLeft_ok w4 hr4 (by omega) (by omega)).mono ?_
    rintro v w5 ⟨rfl, k5⟩
    have kp := kp.trans (noF k5)
    have h5 := h4.keepNo k5
    have q : (((8 * s.l.length : Nat) : Int) - ((8 * (p + 4) : Nat) : Int)).tdiv 8 = ((s.l.length - (p + 4) : Nat) : Int) := by rw [Int.tdiv_eq_ediv_of_nonneg (by omega)]; omega
    (conv => whnf)
    refine VReq.mk (by omega) ?_
    rw [q]
    refine VRes.i64 (by omega) ?_; (conv => whnf)
    refine (room_ok w5 h5 hf (by dsimp only; omega) (by dsimp only; omega) (n := s.l.length - (p + 4)) (by omega)).mono ?_
    rintro v w6 ⟨hv, k6⟩
    have kp := kp.trans (noF k6)
    dsimp only at hv
    by_cases g5 : s.most < s.all.length - s.from_ + (s.l.length - (p + 4))
    · rw [if_pos g5] at hv
      rw [if_pos g5] at hF
      obtain ⟨eb, he⟩ := hv.form
      subst he
      subst hF
      (conv => whnf)
      exact ⟨⟨_, rfl, hv⟩, kp⟩
    rw [if_neg g5] at hv
    rw [if_neg g5] at hF
    subst hv
    subst hF
    (conv => whnf)
    refine (bad_ok w6 2 (by omega)).mono ?_
    rintro v w7 ⟨hE, k7⟩
    (conv => whnf)
    exact ⟨⟨_, rfl, hE⟩, kp.trans (noF k7)⟩
end Go.Proofs.YtgmopcbfgcagaaaDoor
