/-
  Package inflate: copies; symbols to a block's end.
-/
import Derived.Test.YtgmopcbfgcagaaaDoorI5
namespace Go.Proofs.YtgmopcbfgcagaaaDoor
open Go V Go.RowKit

/-- append onto a row of the call's own: what the old slice reads is as it was. -/
theorem append_old {P : Program} {w : World} {base t ty e : Nat} {i : TypeInfo} {z : Value} (ht : P.underlying t = some (.slice e)) (hi : P.info? e = some i) (hz : i.zero = some z) (hsize : i.size = 1)
    {A : Option Addr} {n c : Nat} {xs : List Value} (hown : Own w base e 1 A n c xs) {a : Addr} {m d : Nat} {news : List Value} (hl : news.length = m * 1) (hnews : ∀ j u, news[j]? = some u → w.cell? (a.add j) = some u) (h1 : ∀ u ∈ news, u.oneCell' = true)
    (h63 : n + m ≤ 140737488355328) (hbytes : (n + m) * i.bytes ≤ 140737488355328) {v : Value} {w' : World} (hrun : (Builtin.append_ #[t, t] ty #[.slice A n c, .slice (some a) m d]).run P w = .ok v w') : Sl w' 1 A n xs := by
  rcases hown.2 with ⟨hv, rfl⟩ | ⟨g, cap, cur, hv, hbg, hg, hnc, hcm, hcs, htake⟩
  · have hx : xs = [] := List.eq_nil_of_length_eq_zero (by simpa using hown.1)
    subst hx
    exact Sl.nil
  · obtain ⟨rfl, rfl⟩ : A = some ⟨g, 0, none⟩ ∧ c = cap := by injection hv with h1 _ h3; exact ⟨h1, h3⟩
    have holds : ∀ j u, xs[j]? = some u → w.cell? ((⟨g, 0, none⟩ : Addr).add j) = some u := World.ownsRow.cells hown (g := g) rfl
    refine ⟨hown.1, .inr ⟨g, 0, rfl, fun j u hj => ?_⟩⟩
    have hold := holds j u hj
    rw [addr_add] at hold
    have hold : w.cell? ⟨g, j, none⟩ = some u := by simpa using hold
    rw [Nat.zero_add]
    have hxl : xs.length = n := by simpa using hown.1
    have hjn : j < n := by
      rcases Nat.lt_or_ge j n with h | h
      · exact h
      · rw [List.getElem?_eq_none (by omega)] at hj; cases hj
    by_cases hroom : n + m ≤ c
    · have hfit : n * i.size + news.length ≤ cur.size := by rw [hl, hcs, hsize]; omega
      have hr := run_append_room (P := P) w t ty e i ht hi g n c cur hg a m d news (by rw [hsize]; exact hl) hnews h1 hroom hfit
      rw [hr] at hrun
      injection hrun with _ hw
      rw [← hw]
      have hs := setRow_heap w g cur (cur.toList.take (n * i.size) ++ news ++ cur.toList.drop (n * i.size + news.length)).toArray e (0, 0) hg
      have hcur : cur.toList[j]? = some u := by
        have : w.cell? ⟨g, j, none⟩ = cur[j]? := by simp [World.cell?, hg]
        rw [this] at hold
        simpa using hold
      unfold World.cell?
      rw [setRow_heap w g cur _ e _ hg]
      simp only [hsize, Nat.mul_one]
      rw [List.getElem?_toArray, List.append_assoc, List.getElem?_append_left (by rw [List.length_take, Array.length_toList]; omega), List.getElem?_take_of_lt hjn]
      exact hcur
    · have hr := run_append_grow (P := P) w t ty e i z ht hi hz ⟨g, 0, none⟩ n c xs (by rw [hsize]; exact hown.1) holds a m d news (by rw [hsize]; exact hl) hnews (by omega) (by omega) (growslice_fits (by omega) hbytes)
      rw [hr] at hrun
      injection hrun with _ hw
      rw [← hw]
      have hlt : g < w.heap.size := by
        rcases Nat.lt_or_ge g w.heap.size with h | h
        · exact h
        · rw [Array.getElem?_eq_none h] at hg; cases hg
      rw [← hold]
      exact World.cell?_of_block (heap_alloc_old w.drew _ hlt)

/-- append of bytes onto a row of the call's own: what the old slice reads is as it was. -/
theorem VApp.old8 {w : World} {ty : TypeId} {K : Value → World → Prop} {base : Nat} {A : Option Addr} {n c : Nat} {xs : List UInt8} (hown : Own w base T8 1 A n c (xs.map vb)) {b o m d : Nat} {ys : List UInt8} (hsrc : Sl w 1 (some ⟨b, o, none⟩) m (ys.map vb)) (hm : 0 < m)
    (hlen : n + m ≤ 100000000) (hbase : base ≤ w.heap.size)
    (hK : ∀ A' c' w', Own w' base T8 1 A' (n + m) c' ((xs ++ ys).map vb) → Keep (ownS A) w w' → Sl w' 1 A n (xs.map vb) → (∀ a, A' = some a → (∃ a0, A = some a0 ∧ a.block = a0.block) ∨ a.block = w.heap.size) → K (.slice A' (n + m) c') w') :
    VApp Tryd.prog w #[TS8, TS8] ty (.slice A n c) (.slice (some ⟨b, o, none⟩) m d) K := by
  have h0 : VApp Tryd.prog w #[TS8, TS8] ty (.slice A n c) (.slice (some ⟨b, o, none⟩) m d) (fun v w' => ∃ A' c', v = .slice A' (n + m) c' ∧ Own w' base T8 1 A' (n + m) c' ((xs ++ ys).map vb) ∧ Keep (ownS A) w w' ∧ (∀ a, A' = some a → (∃ a0, A = some a0 ∧ a.block = a0.block) ∨ a.block = w.heap.size)) :=
    VApp.own tt_ok (it := ty22) (ei := ty5) rfl rfl rfl (size := 1) rfl rfl (by omega) hown hsrc (one8 ys) (by show (n + m) * 1 ≤ _; omega) (by omega) hbase
      (fun A' c' w' h1 h2 h3 => ⟨A', c', rfl, by rw [List.map_append]; exact h1, h2, h3⟩)
  obtain ⟨v, w', hrun, A', c', rfl, h1, h2, h3⟩ := h0.h
  obtain ⟨info, hi, hs1, hs2, hs3⟩ := tt_ok.info (t := T8) (i := ty5) rfl
  have hyl : ys.length = m := by simpa using hsrc.len
  obtain ⟨b', o', hA, hc⟩ := hsrc.at_ hm
  cases hA
  refine ⟨_, w', hrun, hK A' c' w' h1 h2 ?_ h3⟩
  exact append_old (i := info) Tryd.underlying22 hi hs3 (by rw [hs1]; rfl) hown (m := m) (news := ys.map vb) (by rw [List.length_map, hyl, Nat.mul_one]) (fun j u hj => by rw [addr_add]; exact hc j u hj) (one8 ys) (by omega) (by rw [hs2]; show (n + m) * 1 ≤ _; omega) hrun

/-- The reader with a byte more. -/
theorem InfV.grown {w w6 w7 : World} {base x rb : Nat} {Ar : Option Addr} {cr : Nat} {A A6 : Option Addr} {c c6 : Nat} {s : IS} {n : Nat} {all' : List UInt8} (h : InfV w base x rb Ar cr A c s) (k6 : Keep (ownS A) w w6) (ho6 : Own w6 base T8 1 A6 n c6 (all'.map vb)) (hn : all'.length = n)
    (hat : ∀ a, A6 = some a → (∃ a0, A = some a0 ∧ a.block = a0.block) ∨ a.block = w.heap.size) (k7 : Keep (fun k => k = x) w6 w7) (hx7 : Blk w7 x TRe [.pointer (some ⟨rb, 0, none⟩), .slice A6 n c6, .int .i64 s.from_, .int .i64 s.most]) :
    InfV w7 base x rb Ar cr A6 c6 { s with all := all' } := by
  have hx6 := h.1.keep k6 (fun ⟨a, ha, e⟩ => (h.aa a ha).2 e)
  have hr6 := h.2.1.keep k6 (fun ⟨a, ha, e⟩ => (h.aa a ha).1 e) (fun a ha ⟨a', ha', e⟩ => (h.2.2.2.2.2 a ha).2.2 a' ha' e.symm)
  have hA6 : ∀ a, Ar = some a → base ≤ a.block ∧ Ty w6 a.block T8 ∧ ∀ a', A6 = some a' → a.block ≠ a'.block := by
    intro a ha
    obtain ⟨g1, g2, g3⟩ := h.2.2.2.2.2 a ha
    refine ⟨g1, g2.keep k6 (fun ⟨a', ha', e⟩ => g3 a' ha' e.symm), fun a' ha' e => ?_⟩
    rcases hat a' ha' with ⟨a0, h0, e0⟩ | e0
    · exact g3 a0 h0 (by rw [e, e0])
    · have := g2.lt
      omega
  have hne6 : ∀ a, A6 = some a → a.block ≠ x := fun a ha => (ho6.ty ha).ne hx6.ty (by decide)
  subst hn
  exact ⟨hx7, hr6.keep k7 (fun e => h.nerb e.symm) (fun a ha e => (h.arb a ha).2 e), ho6.keep k7 (fun a ha e => hne6 a ha e), h.2.2.2.1, h.2.2.2.2.1, fun a ha => by
    obtain ⟨g1, g2, g3⟩ := hA6 a ha
    exact ⟨g1, g2.keep k7 (fun e => (h.arb a ha).2 e), g3⟩⟩

set_option maxHeartbeats 2000000 in
theorem copies_ok (w : World) {base x rb : Nat} {Ar : Option Addr} {cr : Nat} {A : Option Addr} {c : Nat} {s : IS} (h : InfV w base x rb Ar cr A c s) (hb : base ≤ w.heap.size) (hf : Fine s) {y : Nat} (hy : 256 < y) (hy2 : y < 1000) {t : Nat} {cnt ord : List Nat} (ht : TblV w t cnt ord) (hok : TbOk cnt ord) :
    VC Tryd.prog 54 [.pointer (some ⟨x, 0, none⟩), .int .i64 y, .pointer (some ⟨t, 0, none⟩)] w
      (fun v w' => (match copyF cnt ord s y with | .error e => BadV w' v e | .ok s' => v = .nilIface ∧ StepV base x rb Ar cr A w w' s') ∧ Keep (fp x rb A) w w') := by
  have hf0 := hf
  obtain ⟨f1, f2, f3, f4, f5⟩ := hf
  have k1f : ∀ {w1 w2 : World}, Keep (fun k => k = rb) w1 w2 → Keep (fp x rb A) w1 w2 := fun k => k.mono fun _ _ h => .inr (.inl h)
  have noF : ∀ {w1 w2 : World}, Keep No w1 w2 → Keep (fp x rb A) w1 w2 := fun k => k.mono fun _ _ h => h.elim
  obtain ⟨F, hF⟩ : ∃ F, F = copyF cnt ord s y := ⟨_, rfl⟩
  rw [← hF]
  unfold copyF at hF
  obtain ⟨F1, hF1⟩ : ∃ F1, F1 = lenF s y := ⟨_, rfl⟩
  rw [← hF1] at hF
  refine VC.of tt_ok Tryd.func54 rfl (by decide +kernel) (Nat.le_of_ble_eq_true rfl) ?_; (conv => whnf)
  refine (length_ok w h hf0 hy hy2).mono ?_
  rintro v w1 ⟨hv, k1⟩
  rw [← hF1] at hv
  have kp := k1f k1
  cases F1 with
  | error e =>
    obtain ⟨z, E, rfl, hE⟩ := hv
    obtain ⟨eb, he⟩ := hE.form
    subst he
    subst hF
    (conv => whnf)
    exact ⟨hE, kp⟩
  | ok r =>
  obtain ⟨n, s1⟩ := r
  obtain ⟨rfl, h1⟩ := hv
  have hs1 : s1.l = s.l ∧ s1.all = s.all ∧ s1.from_ = s.from_ ∧ s1.most = s.most ∧ s.at_ ≤ s1.at_ ∧ s1.at_ ≤ 8 * s.l.length ∧ n ≤ 2000000 := by
    unfold lenF at hF1
    have hN := numL_small s.l s.at_ ((y - 261) / 4)
    split at hF1
    · cases hF1
    split at hF1
    · obtain ⟨q1, q2⟩ := Prod.mk.inj (Except.ok.inj hF1)
      subst q2
      exact ⟨rfl, rfl, rfl, rfl, Nat.le_refl _, f2, by omega⟩
    split at hF1
    · obtain ⟨q1, q2⟩ := Prod.mk.inj (Except.ok.inj hF1)
      subst q2
      exact ⟨rfl, rfl, rfl, rfl, Nat.le_refl _, f2, by omega⟩
    split at hF1
    · cases hF1
    · have hp : 2 ^ ((y - 261) / 4) ≤ 2 ^ 6 := Nat.pow_le_pow_right (by omega) (by omega)
      have hpm : (4 + (y - 265) % 4) * 2 ^ ((y - 261) / 4) ≤ 8 * 64 := Nat.mul_le_mul (by omega) hp
      have hN := hN (by omega)
      obtain ⟨q1, q2⟩ := Prod.mk.inj (Except.ok.inj hF1)
      subst q2
      exact ⟨rfl, rfl, rfl, rfl, by dsimp only; omega, by dsimp only; omega, by omega⟩
  obtain ⟨e1, e2, e3, e4, e5, e6, e7⟩ := hs1
  have hf1 : Fine s1 := by unfold Fine; rw [e1, e2, e3, e4]; exact ⟨f1, e6, f3, f4, f5⟩
  have ht1 := ht.keepFp h kp
  dsimp only at hF
  obtain ⟨F2, hF2⟩ : ∃ F2, F2 = distF cnt ord s1 := ⟨_, rfl⟩
  rw [← hF2] at hF
  (conv => whnf)
  refine (distance_ok w1 h1 hf1 ht1 hok).mono ?_
  rintro v w2 ⟨hv, k2⟩
  rw [← hF2] at hv
  have kp := kp.trans (k1f k2)
  cases F2 with
  | error e =>
    obtain ⟨z, E, rfl, hE⟩ := hv
    obtain ⟨eb, he⟩ := hE.form
    subst he
    subst hF
    (conv => whnf)
    exact ⟨hE, kp⟩
  | ok r =>
  obtain ⟨b, s2⟩ := r
  obtain ⟨rfl, h2⟩ := hv
  have hs2 : s2.all = s.all ∧ s2.from_ = s.from_ ∧ s2.most = s.most ∧ 1 ≤ b ∧ b ≤ 3000000 := by
    unfold distF at hF2
    split at hF2
    · cases hF2
    split at hF2
    · cases hF2
    split at hF2
    · obtain ⟨q1, q2⟩ := Prod.mk.inj (Except.ok.inj hF2)
      subst q2
      exact ⟨e2, e3, e4, by omega, by omega⟩
    split at hF2
    · cases hF2
    · have hp : 2 ^ ((takeF cnt ord s1.l s1.at_).1 / 2 - 1) ≤ 2 ^ 14 := Nat.pow_le_pow_right (by omega) (by omega)
      have hpm : (2 + (takeF cnt ord s1.l s1.at_).1 % 2) * 2 ^ ((takeF cnt ord s1.l s1.at_).1 / 2 - 1) ≤ 4 * 16384 := Nat.mul_le_mul (by omega) hp
      have hN := numL_small s1.l (takeF cnt ord s1.l s1.at_).2.2 ((takeF cnt ord s1.l s1.at_).1 / 2 - 1) (by omega)
      obtain ⟨q1, q2⟩ := Prod.mk.inj (Except.ok.inj hF2)
      subst q2
      exact ⟨e2, e3, e4, by omega, by omega⟩
  obtain ⟨d2, d3, d4, d5, d6⟩ := hs2
  dsimp only at hF
  (conv => whnf)
  refine VLoad.by_ (h2.1.cell 1) ?_
  (conv => whnf)
  refine VCmp.mk (fun g1 => ?_) (fun g1 => ?_) <;> (conv => whnf)
  · rw [if_pos (by omega)] at hF
    subst hF
    refine (bad_ok w2 10 (by omega)).mono ?_
    rintro v w3 ⟨hE, k3⟩
    (conv => whnf)
    exact ⟨hE, kp.trans (noF k3)⟩
  rw [if_neg (by omega)] at hF
  refine (room_ok w2 h2 (by rw [d3, d2]; exact f3) (by rw [d2]; omega) (by rw [d4]; omega) (n := n) (by omega)).mono ?_
  rintro v w3 ⟨hv, k3⟩
  have kp := kp.trans (noF k3)
  have h3 := h2.keepNo k3
  by_cases g2 : s2.most < s2.all.length - s2.from_ + n
  · rw [if_pos g2] at hv
    rw [if_pos g2] at hF
    obtain ⟨eb, he⟩ := hv.form
    subst he
    subst hF
    (conv => whnf)
    exact ⟨hv, kp⟩
  rw [if_neg g2] at hv
  rw [if_neg g2] at hF
  subst hv
  subst hF
  have hroom : s2.all.length + n ≤ 10000000 := by rw [d2, d3, d4] at *; omega
  have hsz3 := kp.size
  (conv => whnf)
  refine VLoop.by_ tt_ok (S := Nat × Option Addr × Nat) (fun | (k, Ak, ck) => [(0, .pointer (some ⟨x, 0, none⟩)), (9, .int .i64 b), (43, .int .i64 n), (44, .int .i64 k)])
    (fun | (k, Ak, ck) => fun w' => k ≤ n ∧ InfV w' base x rb Ar cr Ak ck { s2 with all := copyAll s2.all b k } ∧ (∀ a, Ak = some a → ownS A a.block ∨ w.heap.size ≤ a.block) ∧ Keep (fp x rb A) w w') (fun | (k, _, _) => n - k)
    (0, A, c) ⟨rfl, rfl, rfl, rfl, trivial⟩ ⟨by omega, h3, fun a ha => .inl ⟨a, ha, rfl⟩, kp⟩ ?_
  rintro ⟨k, Ak, ck⟩ w' ⟨hk, hi, hat, kp⟩
  (conv => whnf)
  refine VCmp.mk (fun g3 => ?_) (fun g3 => ?_) <;> (conv => whnf)
  rotate_left 1
  · obtain rfl : k = n := by omega
    exact ⟨⟨rfl, Ak, ck, hi, hat⟩, kp⟩
  obtain ⟨L, hLL⟩ : ∃ L, L = copyAll s2.all b k := ⟨_, rfl⟩
  have hLl : L.length = s2.all.length + k := by rw [hLL, copyAll_len]
  rw [← hLL] at hi
  have hsl := Sl.ofOwn hi.2.2.1
  dsimp only at hsl
  have hcell1 : w'.cell? ⟨x, 1, none⟩ = some (.slice Ak L.length ck) := hi.1.cell 1
  have hsz := kp.size
  have hxA : ¬ ownS Ak x := fun ⟨a, ha, e⟩ => (hi.aa a ha).2 e
  obtain ⟨ab, ao, hAk, _⟩ := hsl.at_ (by omega)
  refine VDraw.by_ tt_ok rfl (.take 0 (.take 1 (.take 2 (.take 3 (.take 4 (.take 5 (.take 6 (.take 7 (.take 8 (.take 9 (.take 10 (.take 11 (.take 12 (.take 13 (.take 14 (.take 15 (.take 16 (.take 17 (.one 18 (.one 19 (.take 20 (.take 21 (.one 22 .done))))))))))))))))))))))) (by decide +kernel) (fun z => Keep (ownS Ak) w' z ∧ Sl z 1 Ak L.length (L.map vb)) (fun z q1 q2 q3 q4 => ⟨(Keep.ofHeap q1 q2 q3 q4).mono (fun _ _ h => h.elim), hsl.keepNo (Keep.ofHeap q1 q2 q3 q4)⟩) (fun wd hd kd => ?_)
  (conv => whnf)
  refine VLoad.by_ (fun z hz => hz.1.cell hcell1 hxA) ?_
  (conv => whnf)
  refine VLoad.by_ (fun z hz => hz.1.cell hcell1 hxA) ?_
  (conv => whnf)
  refine VLoad.by_ (fun z hz => hz.1.cell hcell1 hxA) ?_
  (conv => whnf)
  refine VRes.i64 (by omega) ?_; (conv => whnf)
  refine VIdx.sl hsl (L.length - b) (show ((L.length - b : Nat) : Int) = (L.length : Int) - (b : Int) by omega) (show L.length - b < L.length by omega) (fun b_ o_ hA_ hc_ => ?_)
  (conv => whnf)
  refine VLoad.by_ (v := vb (L.getD (L.length - b) 0)) (fun z hz => ((hz.2).at_ (by omega)).elim fun b1 ⟨o1, q1, q2⟩ => by
    rw [hA_] at q1; cases q1
    refine q2 (L.length - b) _ ?_
    rw [List.getElem?_map, List.getElem?_eq_getElem (by omega), List.getD_eq_getElem?_getD, List.getElem?_eq_getElem (by omega)]; rfl) ?_
  (conv => whnf)
  refine VFill.by_ rfl ?_; (conv => whnf)
  refine ⟨fun w4 hb4 k4 => ?_⟩
  have hi4 := (hi.keepNo kd).keepNo k4
  (conv => whnf)
  refine VOwe.same ⟨(kd.trans k4).mono (fun _ _ h => h.elim), (hsl.keepNo kd).keepNo k4⟩ ?_
  (conv => whnf)
  have kp4 := (kp.trans (noF kd)).trans (noF k4)
  have hsz4 := kp4.size
  refine VApp.old8 hi4.2.2.1 (ys := [L.getD (L.length - b) 0]) (Sl.ofBlk (n := 1) (size := 1) hb4 rfl) (by omega) (by dsimp only; omega) (by omega) ?_
  intro A6 c6 w6 ho6 k6 hs6 hat6
  have hx6 := hi4.1.keep k6 hxA
  (conv => whnf)
  refine VOwe.same ⟨((kd.trans k4).mono (fun _ _ h => h.elim)).trans k6, hs6⟩ ?_
  (conv => whnf)
  refine VStore.one hx6 (by simp) ?_
  intro w7 hx7 k7 _
  have hg := hi4.grown k6 ho6 (by rw [List.length_append]; rfl) hat6 k7 hx7
  have hat7 : ∀ a, A6 = some a → ownS A a.block ∨ w.heap.size ≤ a.block := by
    intro a ha
    rcases hat6 a ha with ⟨a0, h0, e0⟩ | e0
    · rcases hat a0 h0 with g | g
      · exact .inl (by rw [e0]; exact g)
      · exact .inr (by omega)
    · exact .inr (by omega)
  have k6f : Keep (fp x rb A) w w6 := Keep.andThen kp4 k6 (fun i hi ⟨a, ha, e⟩ => by
    rcases hat a ha with g | g
    · exact .inr (.inr (by rw [← e]; exact g))
    · omega)
  (conv => whnf)
  refine VOwe.to (fun _ => True) (fun h => absurd h (by decide +kernel)) trivial ?_; (conv => whnf)
  refine VRes.i64 (by omega) ?_; (conv => whnf)
  exact ⟨(k + 1, A6, c6), ⟨rfl, rfl, rfl, rfl, trivial⟩, ⟨by omega, by rw [copyAll, ← hLL]; exact hg, hat7, k6f.trans (k7.mono fun _ _ h => .inl h)⟩, by dsimp only; omega⟩
end Go.Proofs.YtgmopcbfgcagaaaDoor
