/-
  The document's inflate: its reader with nothing wrong, and with something; some bits, a symbol, a byte put out, how long a copy is, how far back.
-/
import Derived.Test.YtgmopcbfgcagaaaDoorK6
namespace Go.Proofs.YtgmopcbfgcagaaaDoor
open Go V

/-- The document's reader, nothing wrong. -/
def RfV (w : World) (base x bb : Nat) (Ab : Option Addr) (cb : Nat) (A : Option Addr) (c : Nat) (s : IS) : Prop :=
  RefV w base x bb Ab cb A c s 0 ∧ ∀ a, Ab = some a → base ≤ a.block ∧ Ty w a.block T8 ∧ ∀ a', A = some a' → a.block ≠ a'.block
/-- Something is wrong: e. -/
def RBad (w : World) (x e : Nat) : Prop := e ≠ 0 ∧ ∃ p A n c f m, Blk w x TRr [p, .slice A n c, .int .i64 f, .int .i64 m, .int .i64 e]
def fpR (x bb : Nat) (A : Option Addr) (k : Nat) : Prop := k = x ∨ k = bb ∨ ownS A k
def fpB (x bb : Nat) (k : Nat) : Prop := k = x ∨ k = bb
theorem RBad.keepNo {w w' : World} {x e : Nat} (h : RBad w x e) (k : Keep No w w') : RBad w' x e := by
  obtain ⟨h1, p, A, n, c, f, m, h2⟩ := h
  exact ⟨h1, p, A, n, c, f, m, h2.keepNo k⟩
theorem RfV.arb {w : World} {base x bb : Nat} {Ab : Option Addr} {cb : Nat} {A : Option Addr} {c : Nat} {s : IS} (h : RfV w base x bb Ab cb A c s) : ∀ a, Ab = some a → a.block ≠ x ∧ a.block ≠ bb := fun a ha =>
  ⟨(h.2 a ha).2.1.ne h.1.1.ty (by decide), (h.2 a ha).2.1.ne h.1.2.1.1.ty (by decide)⟩
theorem RfV.aa {w : World} {base x bb : Nat} {Ab : Option Addr} {cb : Nat} {A : Option Addr} {c : Nat} {s : IS} (h : RfV w base x bb Ab cb A c s) : ∀ a, A = some a → a.block ≠ x ∧ a.block ≠ bb := fun a ha =>
  ⟨(h.1.2.2.1.ty ha).ne h.1.1.ty (by decide), (h.1.2.2.1.ty ha).ne h.1.2.1.1.ty (by decide)⟩
theorem RfV.nexb {w : World} {base x bb : Nat} {Ab : Option Addr} {cb : Nat} {A : Option Addr} {c : Nat} {s : IS} (h : RfV w base x bb Ab cb A c s) : x ≠ bb := h.1.1.ne h.1.2.1.1 (by decide)
theorem RfV.keep {S : Nat → Prop} {w w' : World} {base x bb : Nat} {Ab : Option Addr} {cb : Nat} {A : Option Addr} {c : Nat} {s : IS} (h : RfV w base x bb Ab cb A c s) (k : Keep S w w') (h1 : ¬ S x) (h2 : ¬ S bb) (h3 : ∀ i, ownS A i → ¬ S i) (h4 : ∀ i, ownS Ab i → ¬ S i) : RfV w' base x bb Ab cb A c s := by
  obtain ⟨⟨q1, q2, q3, q4⟩, g⟩ := h
  exact ⟨⟨q1.keep k h1, ⟨q2.1.keep k h2, q2.2.keep k (fun a ha => h4 _ ⟨a, ha, rfl⟩)⟩, q3.keep k (fun a ha => h3 _ ⟨a, ha, rfl⟩), q4⟩, fun a ha => ⟨(g a ha).1, (g a ha).2.1.keep k (h4 _ ⟨a, ha, rfl⟩), (g a ha).2.2⟩⟩
theorem RfV.keepNo {w w' : World} {base x bb : Nat} {Ab : Option Addr} {cb : Nat} {A : Option Addr} {c : Nat} {s : IS} (h : RfV w base x bb Ab cb A c s) (k : Keep No w w') : RfV w' base x bb Ab cb A c s :=
  h.keep k id id (fun _ _ => id) (fun _ _ => id)
/-- Steps of the reader leave tables. -/
theorem TabV.keepR {w w' : World} {t : Nat} {lens cods : List Nat} (h : TabV w t lens cods) {base x bb : Nat} {Ab : Option Addr} {cb : Nat} {A : Option Addr} {c : Nat} {s : IS} (hi : RfV w base x bb Ab cb A c s) (k : Keep (fpR x bb A) w w') : TabV w' t lens cods :=
  h.keep k (fun i hty hs => by
    rcases hs with rfl | rfl | ⟨a, ha, rfl⟩
    · rcases hty with g | g
      · exact g.ne hi.1.1.ty (by decide) rfl
      · exact g.ne hi.1.1.ty (by decide) rfl
    · rcases hty with g | g
      · exact g.ne hi.1.2.1.1.ty (by decide) rfl
      · exact g.ne hi.1.2.1.1.ty (by decide) rfl
    · rcases hty with g | g
      · exact g.ne (hi.1.2.2.1.ty ha) (by decide) rfl
      · exact g.ne (hi.1.2.2.1.ty ha) (by decide) rfl)
theorem fpB_R {x bb : Nat} {A : Option Addr} {w w' : World} (k : Keep (fpB x bb) w w') : Keep (fpR x bb A) w w' := k.mono fun _ _ h => by
  rcases h with h | h
  · exact .inl h
  · exact .inr (.inl h)
theorem no_B {x bb : Nat} {w w' : World} (k : Keep No w w') : Keep (fpB x bb) w w' := k.mono fun _ _ h => h.elim
/-- Only what is wrong and the place in the bits have turned. -/
theorem RfV.after {w w' : World} {base x bb : Nat} {Ab : Option Addr} {cb : Nat} {A : Option Addr} {c : Nat} {s s' : IS} (h : RfV w base x bb Ab cb A c s) (k : Keep (fpB x bb) w w') (h' : RefV w' base x bb Ab cb A c s' 0) : RfV w' base x bb Ab cb A c s' :=
  ⟨h', fun a ha => ⟨(h.2 a ha).1, (h.2 a ha).2.1.keep k (fun e => e.elim (h.arb a ha).1 (h.arb a ha).2), (h.2 a ha).2.2⟩⟩
theorem RefV.bad {w : World} {base x bb : Nat} {Ab : Option Addr} {cb : Nat} {A : Option Addr} {c : Nat} {s : IS} {e : Nat} (h : RefV w base x bb Ab cb A c s e) (he : e ≠ 0) : RBad w x e := ⟨he, _, _, _, _, _, _, h.1⟩

/-- What a step of the reader that leaves the bytes put out comes to. -/
structure RNum (base x bb : Nat) (Ab : Option Addr) (cb : Nat) (A : Option Addr) (c : Nat) (w' : World) (F : Except Nat (Nat × IS)) (v : Value) : Prop where
  ok : ∀ n s', F = .ok (n, s') → v = .int .i64 (n : Nat) ∧ RfV w' base x bb Ab cb A c s'
  bad : ∀ e, F = .error e → (∃ z : Int, v = .int .i64 z) ∧ RBad w' x e

theorem RNum.mkOk {base x bb : Nat} {Ab : Option Addr} {cb : Nat} {A : Option Addr} {c : Nat} {w' : World} {n : Nat} {s' : IS} {v : Value} (hv : v = .int .i64 (n : Nat)) (h : RfV w' base x bb Ab cb A c s') : RNum base x bb Ab cb A c w' (.ok (n, s')) v :=
  ⟨fun _ _ e => by injection e with e; injection e with e1 e2; subst e1; subst e2; exact ⟨hv, h⟩, fun _ e => by injection e⟩
theorem RNum.mkBad {base x bb : Nat} {Ab : Option Addr} {cb : Nat} {A : Option Addr} {c : Nat} {w' : World} {e : Nat} {v : Value} (hv : ∃ z : Int, v = .int .i64 z) (h : RBad w' x e) : RNum base x bb Ab cb A c w' (.error e) v :=
  ⟨fun _ _ e => (by injection e), fun _ e => (by injection e with e; subst e; exact ⟨hv, h⟩)⟩

theorem rfail2_ok (w : World) {base x bb : Nat} {Ab : Option Addr} {cb : Nat} {A : Option Addr} {c : Nat} {s : IS} (h : RfV w base x bb Ab cb A c s) {k : Nat} (hk : k ≠ 0) :
    VC Tryd.prog 27 [.pointer (some ⟨x, 0, none⟩), .int .i64 k] w (fun v w' => v = .int .i64 0 ∧ RBad w' x k ∧ Keep (fun k => k = x) w w') := by
  refine (rfail_ok w h.1 k).mono ?_
  rintro v w1 ⟨⟨rfl, hb⟩, k1⟩
  rw [if_pos rfl] at hb
  exact ⟨rfl, ⟨hk, _, _, _, _, _, _, hb⟩, k1⟩
def bitsF (s : IS) (n : Nat) : Except Nat (Nat × IS) := if s.at_ + n ≤ 8 * s.l.length then .ok (numL s.l s.at_ n, { s with at_ := s.at_ + n }) else .error 2
theorem rbits2_ok (w : World) {base x bb : Nat} {Ab : Option Addr} {cb : Nat} {A : Option Addr} {c : Nat} {s : IS} (h : RfV w base x bb Ab cb A c s) (hn : s.l.length ≤ 1000000) (ha : s.at_ ≤ 100000000) {n : Nat} (h32 : n ≤ 32) :
    VC Tryd.prog 39 [.pointer (some ⟨x, 0, none⟩), .int .i64 n] w (fun v w' => RNum base x bb Ab cb A c w' (bitsF s n) v ∧ Keep (fpB x bb) w w') := by
  refine (rbits_ok w h.1 h.arb hn ha h32).mono ?_
  rintro v w1 ⟨hv, k1⟩
  rw [if_pos rfl] at hv
  refine ⟨?_, k1⟩
  unfold bitsF
  by_cases hle : s.at_ + n ≤ 8 * s.l.length
  · rw [if_pos hle] at hv ⊢
    obtain ⟨rfl, h1⟩ := hv
    exact .mkOk rfl (h.after k1 h1)
  · rw [if_neg hle] at hv ⊢
    obtain ⟨rfl, h1⟩ := hv
    exact .mkBad ⟨0, rfl⟩ (h1.bad (by decide))
/-- Something is wrong: nothing is read. -/
theorem rbitsBad_ok (w : World) {x e : Nat} (h : RBad w x e) (n : Value) : VC Tryd.prog 39 [.pointer (some ⟨x, 0, none⟩), n] w (fun v w' => v = .int .i64 0 ∧ w' = w) := by
  obtain ⟨he, p, A, n0, c, f, m, hb⟩ := h
  refine VC.of tt_ok Tryd.func39 rfl (by decide +kernel) (Nat.le_of_ble_eq_true rfl) ?_; (conv => whnf)
  refine VLoad.by_ (hb.cell 4) ?_
  (conv => whnf)
  refine VCmp.mk (fun g => ?_) (fun g => absurd g (by omega))
  (conv => whnf)
  exact ⟨rfl, rfl⟩
theorem rsymBad_ok (w : World) {x e : Nat} (h : RBad w x e) (t : Value) : VC Tryd.prog 63 [.pointer (some ⟨x, 0, none⟩), t] w (fun v w' => v = .int .i64 0 ∧ w' = w) := by
  obtain ⟨he, p, A, n0, c, f, m, hb⟩ := h
  refine VC.of tt_ok Tryd.func63 rfl (by decide +kernel) (Nat.le_of_ble_eq_true rfl) ?_; (conv => whnf)
  refine VLoad.by_ (hb.cell 4) ?_
  (conv => whnf)
  refine VCmp.mk (fun g => ?_) (fun g => absurd g (by omega))
  (conv => whnf)
  exact ⟨rfl, rfl⟩

/-- A table that may be asked. -/
def TabOk (lens : List Nat) : Prop := lens.length ≤ 320 ∧ (∀ x ∈ lens, x ≤ 15) ∧ wholeB (cntK lens lens.length) = true
def symN (lens : List Nat) (s : IS) : Except Nat (Nat × IS) :=
  if (takeF (cntK lens lens.length) (ordA lens 15) s.l s.at_).2.1 ≠ 0 then .error (takeF (cntK lens lens.length) (ordA lens 15) s.l s.at_).2.1 else .ok ((takeF (cntK lens lens.length) (ordA lens 15) s.l s.at_).1, { s with at_ := (takeF (cntK lens lens.length) (ordA lens 15) s.l s.at_).2.2 })

set_option maxHeartbeats 1000000 in
theorem rsym_ok (w : World) {base x bb : Nat} {Ab : Option Addr} {cb : Nat} {A : Option Addr} {c : Nat} {s : IS} (h : RfV w base x bb Ab cb A c s) (hn : s.l.length ≤ 1000000) (ha : s.at_ ≤ 100000000) {t : Nat} {lens : List Nat} (ht : TabV w t lens (codesN lens)) (hok : TabOk lens) :
    VC Tryd.prog 63 [.pointer (some ⟨x, 0, none⟩), .pointer (some ⟨t, 0, none⟩)] w (fun v w' => RNum base x bb Ab cb A c w' (symN lens s) v ∧ Keep (fpB x bb) w w') := by
  have herr := takeK_err (cntK lens lens.length) (ordA lens 15) s.l 15 1 0 0 0 s.at_
  obtain ⟨T, hT⟩ : ∃ T, T = takeF (cntK lens lens.length) (ordA lens 15) s.l s.at_ := ⟨_, rfl⟩
  have herr : T.2.1 ≤ 10 := by rw [hT]; exact herr
  unfold symN
  rw [← hT]
  refine VC.of tt_ok Tryd.func63 rfl (by decide +kernel) (Nat.le_of_ble_eq_true rfl) ?_; (conv => whnf)
  refine VLoad.by_ (h.1.1.cell 4) ?_
  (conv => whnf)
  refine VCmp.mk (fun g => absurd rfl g) (fun _ => ?_); (conv => whnf)
  refine VLoad.by_ (h.1.1.cell 0) ?_
  (conv => whnf)
  refine (rTake_ok w ht hok.1 hok.2.1 (codesN_lt lens hok.2.1 hok.2.2) h.1.2.1 hn ha (fun a ha => (h.arb a ha).2)).mono ?_
  rintro v w1 ⟨rfl, hb1, k1⟩
  rw [rtk_ok lens hok.2.1 hok.2.2, ← hT] at hb1
  rw [rtk_ok lens hok.2.1 hok.2.2, ← hT]
  obtain ⟨y, er, p⟩ := T
  dsimp only at hb1 herr
  have kB : Keep (fpB x bb) w w1 := k1.mono fun _ _ h => .inr h
  have h1 : RfV w1 base x bb Ab cb A c { s with at_ := p } := h.after kB ⟨h.1.1.keep k1 h.nexb, hb1, h.1.2.2.1.keep k1 (fun a ha => (h.aa a ha).2), h.1.2.2.2⟩
  (conv => whnf)
  refine VCmp.mk (fun g1 => ?_) (fun g1 => ?_) <;> (conv => whnf)
  · have g1 : (er : Int) ≠ 0 := g1
    refine (rfail2_ok w1 h1 (k := er) (by omega)).mono ?_
    rintro v w2 ⟨rfl, hb2, k2⟩
    (conv => whnf)
    rw [if_pos (show er ≠ 0 by omega)]
    exact ⟨.mkBad ⟨0, rfl⟩ hb2, kB.trans (k2.mono fun _ _ h => .inl h)⟩
  · have g1 : ¬ (er : Int) ≠ 0 := g1
    rw [if_neg (show ¬ er ≠ 0 by omega)]
    exact ⟨.mkOk rfl h1, kB⟩

/-- What a step of the reader that may put bytes out comes to. -/
structure RRes (base x bb : Nat) (Ab : Option Addr) (cb : Nat) (A : Option Addr) (w w' : World) (F : Except Nat IS) : Prop where
  ok : ∀ s', F = .ok s' → ∃ A' c', RfV w' base x bb Ab cb A' c' s' ∧ ∀ a, A' = some a → ownS A a.block ∨ w.heap.size ≤ a.block
  bad : ∀ e, F = .error e → RBad w' x e
theorem RRes.mkOk {base x bb : Nat} {Ab : Option Addr} {cb : Nat} {A : Option Addr} {w w' : World} {s' : IS} (h : ∃ A' c', RfV w' base x bb Ab cb A' c' s' ∧ ∀ a, A' = some a → ownS A a.block ∨ w.heap.size ≤ a.block) : RRes base x bb Ab cb A w w' (.ok s') :=
  ⟨fun _ e => (by injection e with e; subst e; exact h), fun _ e => (by injection e)⟩
theorem RRes.mkBad {base x bb : Nat} {Ab : Option Addr} {cb : Nat} {A : Option Addr} {w w' : World} {e : Nat} (h : RBad w' x e) : RRes base x bb Ab cb A w w' (.error e) :=
  ⟨fun _ e => (by injection e), fun _ e => (by injection e with e; subst e; exact h)⟩
set_option maxHeartbeats 1000000 in
theorem rput2_ok (w : World) {base x bb : Nat} {Ab : Option Addr} {cb : Nat} {A : Option Addr} {c : Nat} {s : IS} (h : RfV w base x bb Ab cb A c s) (hb : base ≤ w.heap.size) (hf : s.from_ ≤ s.all.length) (hal : s.all.length ≤ 10000000) (hm : s.most ≤ 10000000) (b : UInt8) :
    VC Tryd.prog 61 [.pointer (some ⟨x, 0, none⟩), vb b] w
      (fun v w' => (v = .tuple #[] ∧ RRes base x bb Ab cb A w w' (if s.most < s.all.length - s.from_ + 1 then .error 3 else .ok { s with all := s.all ++ [b] })) ∧ Keep (fpR x bb A) w w') := by
  refine (rput_ok w h.1 hb hf hal hm b).mono ?_
  rintro v w1 ⟨rfl, hv⟩
  by_cases g : s.most ≤ s.all.length - s.from_
  · rw [if_pos g] at hv
    rw [if_pos (by omega)]
    exact ⟨⟨rfl, .mkBad ⟨by decide, _, _, _, _, _, _, hv.1⟩⟩, hv.2.mono fun _ _ h => .inl h⟩
  · rw [if_neg g] at hv
    rw [if_neg (by omega)]
    obtain ⟨A', c', q1, q2, q3, q4⟩ := hv
    have hl : s.all.length + 1 = (s.all ++ [b]).length := by rw [List.length_append]; rfl
    have nB : ∀ a, Ab = some a → ¬ (a.block = x ∨ ownS A a.block) := fun a ha e => e.elim (h.arb a ha).1 (fun ⟨a', ha', e⟩ => (h.2 a ha).2.2 a' ha' e.symm)
    refine ⟨⟨rfl, .mkOk ⟨A', c', ⟨⟨?_, ?_, ?_, h.1.2.2.2⟩, fun a ha => ⟨(h.2 a ha).1, (h.2 a ha).2.1.keep q4 (nB a ha), fun a' ha' e => ?_⟩⟩, q3⟩⟩, q4.mono fun _ _ h => h.elim .inl (fun h => .inr (.inr h))⟩
    · rw [hl] at q1; exact q1
    · exact ⟨h.1.2.1.1.keep q4 (fun e => e.elim (fun e => h.nexb e.symm) (fun ⟨a', ha', e⟩ => (h.aa a' ha').2 e)), h.1.2.1.2.keep q4 nB⟩
    · rw [hl] at q2; exact q2
    · rcases q3 a' ha' with ⟨a0, h0, e0⟩ | e0
      · exact (h.2 a ha).2.2 a0 h0 (by rw [e, e0])
      · have := (h.2 a ha).2.1.lt
        omega
end Go.Proofs.YtgmopcbfgcagaaaDoor
