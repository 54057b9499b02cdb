/-
  The document's table: the next symbol.
-/
import Derived.Test.YtgmopcbfgcagaaaDoorK3
namespace Go.Proofs.YtgmopcbfgcagaaaDoor
open Go V

theorem TabV.keep {S : Nat → Prop} {w w' : World} {t : Nat} {lens cods : List Nat} (h : TabV w t lens cods) (k : Keep S w w') (hs : ∀ i, (Ty w i TTr ∨ Ty w i TId) → ¬ S i) : TabV w' t lens cods := by
  obtain ⟨h1, L, cl, C, cc, h2, h3, h4, h5, h6⟩ := h
  exact ⟨h1, L, cl, C, cc, h2.keep k (hs _ (.inl h2.ty)), h3.keep k (fun a ha => hs _ (.inr (h5 a ha))), h4.keep k (fun a ha => hs _ (.inr (h6 a ha))), fun a ha => (h5 a ha).keep k (hs _ (.inr (h5 a ha))), fun a ha => (h6 a ha).keep k (hs _ (.inr (h6 a ha)))⟩
/-- The next symbol by the document's table: its number, what is wrong, the place behind; behind the first n bits. -/
def rtkK (lens cods : List Nat) (l : List UInt8) : Nat → Nat → Nat → Nat → Nat × Nat × Nat
  | 0, _, _, p => (0, 10, p)
  | f + 1, n, code, p =>
    if 8 * l.length < p + 1 then (0, 2, p) else
    if 0 ≤ (begF lens cods (2 * code + bitL l p) n lens.length 0 false).2 then ((begF lens cods (2 * code + bitL l p) n lens.length 0 false).2.toNat, 0, p + 1) else
    if (begF lens cods (2 * code + bitL l p) n lens.length 0 false).1 = false then (0, 10, p + 1) else
    rtkK lens cods l f (n + 1) (2 * code + bitL l p) (p + 1)
def rtkF (lens cods : List Nat) (l : List UInt8) (p : Nat) : Nat × Nat × Nat :=
  if (begF lens cods 0 0 lens.length 0 false).1 = false ∨ (∀ x ∈ lens, x = 0) then (0, 10, p) else rtkK lens cods l 15 1 0 p

/-- Are the first k lengths nought? -/
def zerB (lens : List Nat) : Nat → Bool
  | 0 => true
  | k + 1 => zerB lens k && lens.getD k 0 == 0
theorem zerB_iff (lens : List Nat) (k : Nat) : zerB lens k = true ↔ ∀ i, i < k → lens.getD i 0 = 0 := by
  induction k with
  | zero => simp [zerB]
  | succ k ih =>
    unfold zerB
    rw [Bool.and_eq_true, ih, beq_iff_eq]
    constructor
    · rintro ⟨h1, h2⟩ i hi
      rcases Nat.lt_or_ge i k with h | h
      · exact h1 i h
      · obtain rfl : i = k := by omega
        exact h2
    · intro h
      exact ⟨fun i hi => h i (by omega), h k (by omega)⟩
theorem zerB_all (lens : List Nat) : zerB lens lens.length = true ↔ ∀ x ∈ lens, x = 0 := by
  rw [zerB_iff]
  constructor
  · intro h x hx
    obtain ⟨j, hj, rfl⟩ := List.getElem_of_mem hx
    have := h j hj
    rwa [List.getD_eq_getElem?_getD, List.getElem?_eq_getElem hj] at this
  · intro h i hi
    rw [List.getD_eq_getElem?_getD, List.getElem?_eq_getElem hi]
    exact h _ (List.getElem_mem hi)

set_option maxHeartbeats 2000000 in
theorem rTake_ok (w : World) {t rb : Nat} {lens cods : List Nat} {A : Option Addr} {c : Nat} {l : List UInt8} {p : Nat} (ht : TabV w t lens cods) (hn : lens.length ≤ 320) (h15 : ∀ x ∈ lens, x ≤ 15) (hc : ∀ x ∈ cods, x < 65536)
    (hb : BitsV w rb A c (openP false l) p false) (hl : l.length ≤ 1000000) (hp : p ≤ 100000000) (hne : ∀ a, A = some a → a.block ≠ rb) :
    VC Tryd.prog 76 [.pointer (some ⟨t, 0, none⟩), .pointer (some ⟨rb, 0, none⟩)] w
      (fun v w' => v = .tuple #[.int .i64 ((rtkF lens cods l p).1 : Nat), .int .i64 ((rtkF lens cods l p).2.1 : Nat)] ∧ BitsV w' rb A c (openP false l) (rtkF lens cods l p).2.2 false ∧ Keep (fun k => k = rb) w w') := by
  have hop : (openP false l).length = 8 * l.length := openP_len _ _
  have noR : ∀ {w1 w2 : World}, Keep No w1 w2 → Keep (fun k => k = rb) w1 w2 := fun k => k.mono fun _ _ h => h.elim
  have hgen : ∀ w', Keep (fun k => k = rb) w w' → TabV w' t lens cods := fun w' k => ht.keep k (fun i hty e => by
    subst e
    rcases hty with g | g
    · exact g.ne hb.1.ty (by decide) rfl
    · exact g.ne hb.1.ty (by decide) rfl)
  obtain ⟨T, hT⟩ : ∃ T, T = rtkF lens cods l p := ⟨_, rfl⟩
  rw [← hT]
  unfold rtkF at hT
  refine VC.of tt_ok Tryd.func76 rfl (by decide +kernel) (Nat.le_of_ble_eq_true rfl) ?_; (conv => whnf)
  refine VLoop.by_ tt_ok (S := Nat × Nat × Nat) (fun | (n, code, q) => [(0, .pointer (some ⟨t, 0, none⟩)), (1, .pointer (some ⟨rb, 0, none⟩)), (6, .int .i64 code), (7, .int .i64 n)])
    (fun | (n, code, q) => fun w' => n ≤ 16 ∧ code < 2 ^ (n - 1) ∧ q ≤ p + n ∧ (n = 0 → q = p ∧ code = 0) ∧ (1 ≤ n → T = rtkK lens cods l (16 - n) n code q) ∧ BitsV w' rb A c (openP false l) q false ∧ Keep (fun k => k = rb) w w') (fun | (n, _, _) => 16 - n)
    (0, 0, p) ⟨rfl, rfl, rfl, rfl, trivial⟩ ⟨by omega, by decide, by omega, fun _ => ⟨rfl, rfl⟩, fun h => absurd h (by omega), hb, Keep.refl _ _⟩ ?_
  rintro ⟨n, code, q⟩ w' ⟨hn16, hcode, hq, h0, h1, hb', kk⟩
  have ht' := hgen w' kk
  (conv => whnf)
  refine VCmp.mk (fun g1 => ?_) (fun g1 => ?_) <;> (conv => whnf)
  rotate_left 1
  · obtain rfl : n = 16 := by omega
    have h1 := h1 (by omega)
    unfold rtkK at h1
    subst h1
    exact ⟨rfl, hb', kk⟩
  refine VCmp.mk (fun g2 => ?_) (fun g2 => ?_) <;> (conv => whnf)
  · obtain rfl : n = 0 := by omega
    obtain ⟨rfl, rfl⟩ := h0 rfl
    refine (begins_ok w' ht' hn h15 hc (code := 0) (n := 0) (by omega) (by omega)).mono ?_
    rintro v w1 ⟨rfl, k1⟩
    have kk1 := kk.trans (noR k1)
    obtain ⟨sm, hsm⟩ : ∃ sm, sm = (begF lens cods 0 0 lens.length 0 false).1 := ⟨_, rfl⟩
    rw [← hsm] at hT ⊢
    (conv => whnf)
    refine VLoop.by_ tt_ok (S := Nat) (fun k => [(0, .pointer (some ⟨t, 0, none⟩)), (1, .pointer (some ⟨rb, 0, none⟩)), (6, .int .i64 0), (7, .int .i64 0), (8, .bool sm), (10, .bool (zerB lens k)), (11, .int .i64 k)])
      (fun k w' => k ≤ lens.length ∧ BitsV w' rb A c (openP false l) q false ∧ Keep (fun k => k = rb) w w') (fun k => lens.length - k)
      0 ⟨rfl, rfl, rfl, rfl, rfl, rfl, rfl, trivial⟩ ⟨by omega, hb'.keepNo k1, kk1⟩ ?_
    rintro k w2 ⟨hk, hb2, kk2⟩
    obtain ⟨hcl, L, cl, C, cc, htb, hL, hC, _, _⟩ := hgen w2 kk2
    (conv => whnf)
    refine VLoad.by_ (htb.cell 0) ?_
    (conv => whnf)
    refine VCmp.mk (fun g3 => ?_) (fun g3 => ?_) <;> (conv => whnf)
    · have hz : zerB lens (k + 1) = (zerB lens k && lens.getD k 0 == 0) := rfl
      cases hzk : zerB lens k with
      | false =>
        (conv => whnf)
        refine VRes.i64 (by omega) ?_; (conv => whnf)
        exact ⟨k + 1, ⟨rfl, rfl, rfl, rfl, rfl, by rw [hz, hzk]; rfl, rfl, trivial⟩, ⟨by omega, hb2, kk2⟩, by omega⟩
      | true =>
        (conv => whnf)
        refine VLoad.by_ (htb.cell 0) ?_
        (conv => whnf)
        refine VIdx.nv hL k rfl (by omega) (fun b_ o_ hA_ hc_ => ?_)
        (conv => whnf)
        refine VLoad.by_ hc_ ?_
        (conv => whnf)
        refine VCmp.mk (fun g4 => ?_) (fun g4 => ?_) <;> (conv => whnf)
        · refine VRes.i64 (by omega) ?_; (conv => whnf)
          exact ⟨k + 1, ⟨rfl, rfl, rfl, rfl, rfl, by rw [hz, hzk, show lens.getD k 0 = 0 from by omega]; rfl, rfl, trivial⟩, ⟨by omega, hb2, kk2⟩, by omega⟩
        · refine VRes.i64 (by omega) ?_; (conv => whnf)
          exact ⟨k + 1, ⟨rfl, rfl, rfl, rfl, rfl, by rw [hz, hzk, beq_false_of_ne (show lens.getD k 0 ≠ 0 from by omega)]; rfl, rfl, trivial⟩, ⟨by omega, hb2, kk2⟩, by omega⟩
    obtain rfl : k = lens.length := by omega
    cases sm with
    | false =>
      rw [if_pos (.inl rfl)] at hT
      subst hT
      (conv => whnf)
      exact ⟨rfl, hb2, kk2⟩
    | true =>
      cases hzk : zerB lens lens.length with
      | true =>
        rw [if_pos (.inr ((zerB_all lens).1 hzk))] at hT
        subst hT
        (conv => whnf)
        exact ⟨rfl, hb2, kk2⟩
      | false =>
        rw [if_neg (by rintro (h | h)
                       · cases h
                       · rw [(zerB_all lens).2 h] at hzk; cases hzk)] at hT
        (conv => whnf)
        refine VRes.i64 (by omega) ?_; (conv => whnf)
        exact ⟨(1, 0, q), ⟨rfl, rfl, rfl, rfl, trivial⟩, ⟨by omega, by decide, by omega, fun h => absurd h (by omega), fun _ => hT, hb2, kk2⟩, by dsimp only; omega⟩
  have h1 := h1 (by omega)
  obtain ⟨f, hf⟩ : ∃ f, 16 - n = f + 1 := ⟨15 - n, by omega⟩
  rw [hf] at h1
  unfold rtkK at h1
  refine (bitsTake_ok w' hb' (openP_bits _ _) (by omega) (by omega) (n := 1) (by omega) hne).mono ?_
  rintro v w1 hv1
  rw [hop] at hv1
  by_cases h3 : 8 * l.length < q + 1
  · rw [if_neg (by omega)] at hv1
    obtain ⟨rfl, k1⟩ := hv1
    rw [if_pos h3] at h1
    subst h1
    (conv => whnf)
    exact ⟨rfl, hb'.keepNo k1, kk.trans (noR k1)⟩
  rw [if_pos (by omega), numK_numL, numL_one] at hv1
  rw [if_neg h3] at h1
  obtain ⟨rfl, hb1, k1⟩ := hv1
  have kk1 := kk.trans k1
  have hbit := bitL_le l q
  have hp15 : 2 ^ n = 2 * 2 ^ (n - 1) := by
    obtain ⟨z, rfl⟩ : ∃ z, n = z + 1 := ⟨n - 1, by omega⟩
    rw [Nat.add_sub_cancel, Nat.pow_succ]; omega
  have hpp : 2 ^ n ≤ 2 ^ 15 := Nat.pow_le_pow_right (by omega) (by omega)
  obtain ⟨C, hC⟩ : ∃ C, C = 2 * code + bitL l q := ⟨_, rfl⟩
  rw [← hC] at h1
  (conv => whnf)
  refine VReq.mk (by omega) ?_
  refine VRes.shlNat (N := code) (s := 1) rfl rfl (by omega) (by omega) ?_
  (conv => whnf)
  refine VRes.orNat (N := code * 2 ^ 1) (M := bitL l q) (R := C) rfl rfl (by omega) (by omega) (by rw [hC]; exact or_bit_hi hbit) ?_
  (conv => whnf)
  refine (begins_ok w1 (hgen w1 kk1) hn h15 hc (code := C) (n := n) (by omega) (by omega)).mono ?_
  rintro v w2 ⟨rfl, k2⟩
  have kk2 := kk1.trans (noR k2)
  have hb2 := hb1.keepNo k2
  obtain ⟨G, hG⟩ : ∃ G, G = begF lens cods C n lens.length 0 false := ⟨_, rfl⟩
  rw [← hG] at h1 ⊢
  obtain ⟨sm, sy⟩ := G
  dsimp only at h1
  (conv => whnf)
  refine VCmp.mk (fun g3 => ?_) (fun g3 => ?_) <;> (conv => whnf)
  · have g3 : (0 : Int) ≤ sy := g3
    rw [if_pos g3] at h1
    subst h1
    refine ⟨?_, hb2, kk2⟩
    show Value.tuple #[.int .i64 sy, .int .i64 0] = _
    rw [← Int.toNat_of_nonneg g3]
    rfl
  have g3 : ¬ (0 : Int) ≤ sy := g3
  rw [if_neg g3] at h1
  cases sm with
  | false =>
    rw [if_pos rfl] at h1
    subst h1
    (conv => whnf)
    exact ⟨rfl, hb2, kk2⟩
  | true =>
    rw [if_neg (by decide)] at h1
    (conv => whnf)
    refine VRes.i64 (by omega) ?_; (conv => whnf)
    refine ⟨(n + 1, C, q + 1), ⟨rfl, rfl, rfl, rfl, trivial⟩, ⟨by omega, by rw [Nat.add_sub_cancel]; omega, by omega, fun h => absurd h (by omega), fun _ => by rw [show 16 - (n + 1) = f from by omega]; exact h1, hb2, kk2⟩, by dsimp only; omega⟩
end Go.Proofs.YtgmopcbfgcagaaaDoor
