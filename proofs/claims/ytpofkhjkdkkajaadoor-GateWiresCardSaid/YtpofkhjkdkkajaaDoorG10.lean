/-
  Gate: frames one behind the other: each is seen. For every input. With the statement.
-/
import Derived.Test.YtpofkhjkdkkajaaDoorG9
namespace Go.Proofs.YtpofkhjkdkkajaaDoor
open Go V Go.ChangeShapes Go.WideShapes Go.ChangeAt Go.RowKit

abbrev TDG : TypeId := 29
abbrev TDGs : TypeId := 22
abbrev TB8 : TypeId := 27
theorem appD {w0 w : World} {ty : TypeId} {K : Value → World → Prop} {A : Option Addr} {n c : Nat} {xs : List Value} {B : Option Addr} {m d : Nat} {ys : List Value}
    (h0 : Keep No w0 w) (hown : Own w w0.heap.size TDG 2 A n c xs) (hsrc : Sl w 2 B m ys) (h1 : ∀ u ∈ ys, u.oneCell' = true) (hlen : n + m ≤ 1000000)
    (hK : ∀ A' c' w', Own w' w0.heap.size TDG 2 A' (n + m) c' (xs ++ ys) → Keep No w0 w' → Keep (ownS A) w w' → K (.slice A' (n + m) c') w') :
    VApp Tryd.prog w #[TDGs, TDGs] ty (.slice A n c) (.slice B m d) K :=
  VApp.own tt_ok (it := ty22) (ei := ty29) rfl rfl rfl (size := 2) rfl rfl (by omega) hown hsrc h1 (by show (n + m) * 32 ≤ _; omega) (by omega) h0.size
    fun A' c' w' h1 h2 _ => hK A' c' w' h1 (h0.own hown h2) h2
theorem appB {w0 w : World} {ty : TypeId} {K : Value → World → Prop} {A : Option Addr} {n c : Nat} {xs : List UInt8} {B : Option Addr} {m d : Nat} {ys : List UInt8}
    (h0 : Keep No w0 w) (hown : Own w w0.heap.size T8 1 A n c (xs.map vb)) (hsrc : Sl w 1 B m (ys.map vb)) (hlen : n + m ≤ 1000000)
    (hK : ∀ A' c' w', Own w' w0.heap.size T8 1 A' (n + m) c' ((xs ++ ys).map vb) → Keep No w0 w' → Keep (ownS A) w w' → K (.slice A' (n + m) c') w') :
    VApp Tryd.prog w #[TB8, TB8] ty (.slice A n c) (.slice B m d) K :=
  VApp.own tt_ok (it := ty27) (ei := ty5) rfl rfl rfl (size := 1) rfl rfl (by omega) hown hsrc (one8 ys) (by show (n + m) * 1 ≤ _; omega) (by omega) h0.size
    fun A' c' w' h1 h2 _ => hK A' c' w' (by rw [List.map_append]; exact h1) (h0.own hown h2) h2

theorem wsOf_le (f : Fo) (m : BitVec 32) (os : List Pk.Opt) : (wsOf f m os).length ≤ os.length := List.length_filter_le _ _
theorem wsOf_mem {f : Fo} {m : BitVec 32} {os : List Pk.Opt} (h : ∀ o ∈ os, o.data.length ≤ 300) : ∀ o ∈ wsOf f m os, (wireP o.t o.data f m).2 = 0 ∧ o.data.length ≤ 300 := by
  intro o ho
  obtain ⟨h1, h2⟩ := List.mem_filter.1 ho
  exact ⟨of_decide_eq_true h2, h o h1⟩
theorem take_snoc_p {α : Type} {P : α → Prop} {l : List α} {k : Nat} {x : α} (hx : l[k]? = some x) (h : ∀ s ∈ l.take k, P s) (hk : P x) : ∀ s ∈ l.take (k + 1), P s := by
  intro y hy
  rw [List.take_add_one, hx] at hy
  rcases List.mem_append.1 hy with h1 | h1
  · exact h y h1
  · obtain rfl : y = x := by simpa using h1
    exact hk

theorem dg_at {X : Nat → Prop} {w : World} {A : Option Addr} {n : Nat} {cells : List Value} {os : List Pk.Opt} (ho : Pk.Ops w X cells os) (hs : Sl w 2 A n cells) {k : Nat} {x : Pk.Opt} (hx : os[k]? = some x) :
    ∃ b o A1 c1, A = some ⟨b, o, none⟩ ∧ k < n ∧ w.cell? ⟨b, o + k * 2, none⟩ = some (.int .i64 x.t) ∧ w.cell? ⟨b, o + k * 2 + 1, none⟩ = some (.slice A1 x.data.length c1) ∧ x.data.length ≤ c1 ∧ Sl w 1 A1 x.data.length (x.data.map vb) ∧ ∀ a, A1 = some a → 0 < x.data.length → X a.block := by
  obtain ⟨A1, c1, h1, h2, h3, h4, h5⟩ := ho.2 k x hx
  have hlt : k < os.length := by
    rcases Nat.lt_or_ge k os.length with h | h
    · exact h
    · rw [List.getElem?_eq_none h] at hx; cases hx
  have hl := ho.1
  have hl2 := hs.1
  obtain ⟨b, o, hA, hc⟩ := hs.at_ (by omega)
  exact ⟨b, o, A1, c1, hA, by omega, hc _ _ h1, by rw [Nat.add_assoc]; exact hc _ _ h2, h3, h4, h5⟩

theorem gateWires_ok (W : World) (hg : EtOk W) (A : Option Addr) (n c : Nat) (cells : List Value) (os : List Pk.Opt) (hs : Sl W 2 A n cells) (ho : Pk.Ops W (fun k => k < W.heap.size) cells os) (hnc : n ≤ c) (_ : c ≤ 9223372036854775807) (hfl : ∀ o ∈ os, o.data.length ≤ 9223372036854775807) (f : Fo) (m : BitVec 32) :
    VC Tryd.prog 3 [.slice A n c, f.v, vw m] W (fun v w' => v = .bool true ∧ Keep No W w') := by
  have hl := ho.len hs
  unfold Fo.v
  refine VC.of tt_ok Tryd.func3 rfl (by decide +kernel) (Nat.le_of_ble_eq_true rfl) ?_; (conv => whnf)
  refine ⟨fun w1 hb kp => ?_⟩; have hb_lt := Blk.lt hb; have kp_sz := kp.size; (conv => whnf)
  refine (awake26_ok w1 (hg.keepNo kp)).mono ?_
  rintro v w2 ⟨rfl, hk2⟩
  have kp := kp.keepNo hk2; have hb := hb.keepNo hk2
  have hsz2 := kp.size
  (conv => whnf)
  refine VCmp.mk (fun h => ?_) (fun h => ?_) <;> (conv => whnf)
  · exact ⟨rfl, kp⟩
  refine VLoop.by_ tt_ok (S := Nat × (Option Addr × Nat) × Option Addr × Nat × List Value) (fun | (k, (Ab, cb), Aw, cw, _) => [(0, .slice A n c), (2, vw m), (4, .pointer (some ⟨W.heap.size, 0, none⟩)), (7, .slice Ab (bsOf f m (os.take k)).length cb), (8, .slice Aw (wsOf f m (os.take k)).length cw), (9, .int .i64 k)])
    (fun | (k, (Ab, cb), Aw, cw, cs) => fun w' => k ≤ n ∧ Own w' w2.heap.size T8 1 Ab (bsOf f m (os.take k)).length cb ((bsOf f m (os.take k)).map vb) ∧ Own w' w2.heap.size TDG 2 Aw (wsOf f m (os.take k)).length cw cs ∧ Pk.Ops w' (fun k => k < W.heap.size) cs (wsOf f m (os.take k)) ∧ (∀ o ∈ os.take k, o.data.length ≤ 300) ∧ Keep No w2 w') (fun | (k, _) => n - k)
    (0, (none, 0), none, 0, []) ⟨rfl, rfl, rfl, rfl, rfl, rfl, trivial⟩ ⟨by omega, Own.nil _ _ _ _, Own.nil _ _ _ _, Pk.Ops.nil _ _, by simp, Keep.refl _ _⟩ ?_
  rintro ⟨k, ⟨Ab, cb⟩, Aw, cw, cs⟩ w' ⟨hk, hob, how, hops, h300, kk⟩
  have hwl := wsOf_le f m (os.take k)
  have htk : (os.take k).length ≤ os.length := by rw [List.length_take]; omega
  have hbl := bs_len f m _ (fun o ho => (wsOf_mem (f := f) (m := m) h300 o ho).2)
  change (bsOf f m (os.take k)).length ≤ 700 * (wsOf f m (os.take k)).length at hbl
  (conv => whnf)
  refine VCmp.mk (fun h => ?_) (fun h => ?_) <;> (conv => whnf)
  rotate_left 1
  · obtain rfl : k = n := by omega
    have hlook := look_bs f m _ (wsOf_mem (f := f) (m := m) h300)
    change lookP (bsOf f m (os.take k)) = _ at hlook
    refine (Look_ok w' (hg.keepNo (kp.trans kk)) (Sl.ofOwn hob) (by omega)).mono ?_
    rintro v w3 ⟨⟨A3, n3, c3, cells3, rfl, hs3, ho3, hc3⟩, hk3⟩
    rw [hlook] at ho3 ⊢
    have hl3 := ho3.len hs3
    rw [List.length_map] at hl3
    subst hl3
    have kk := kk.keepNo hk3; have how := how.keepNo hk3; have hops := hops.keepNo hk3
    (conv => whnf)
    refine VCmp.mk (fun h => absurd rfl h) (fun _ => ?_); (conv => whnf)
    refine VCmp.mk (fun h => absurd rfl h) (fun _ => ?_); (conv => whnf)
    refine VLoop.by_ tt_ok (S := Nat) (fun j => [(8, .slice Aw (wsOf f m (os.take k)).length cw), (12, .slice A3 (wsOf f m (os.take k)).length c3), (14, .int .i64 j)]) (fun j w' => j ≤ (wsOf f m (os.take k)).length ∧ Keep No w3 w') (fun j => (wsOf f m (os.take k)).length - j) 0
      ⟨rfl, rfl, rfl, trivial⟩ ⟨by omega, Keep.refl _ _⟩ ?_
    rintro j wj ⟨hj, kj⟩
    (conv => whnf)
    refine VCmp.mk (fun h => ?_) (fun h => ?_) <;> (conv => whnf)
    rotate_left 1
    · exact ⟨rfl, (kp.trans kk).trans kj⟩
    obtain ⟨x, hx⟩ : ∃ x, (wsOf f m (os.take k))[j]? = some x := ⟨_, List.getElem?_eq_getElem (by omega)⟩
    have hx2 : ((wsOf f m (os.take k)).map (fun o => snP o.t o.data))[j]? = some (snP x.t x.data) := by rw [List.getElem?_map, hx]; rfl
    obtain ⟨b, o, A4, c4, hA, _, e0, _, _, e3, _, _⟩ := ho3.at_ hs3 hx2
    obtain ⟨b', o', A5, c5, hB, _, g0, g1, _, _⟩ := hops.at_ (Sl.ofOwn how) hx
    have e0 := kj.cell e0 id
    have e3 := kj.cell e3 id
    have g0 := kj.cell g0 id
    have g1 := kj.cell g1 id
    refine VDraw.by_ tt_ok rfl (.take 0 (.take 1 (.take 2 (.take 3 (.take 4 (.take 5 (.take 6 (.take 7 (.take 8 (.take 9 (.take 10 (.take 11 (.take 12 (.take 13 (.take 14 (.take 15 (.take 16 (.take 17 (.take 18 (.take 19 (.take 20 (.take 21 (.take 22 (.take 23 (.take 24 .done))))))))))))))))))))))))) (by decide +kernel) _ (fun x h1 h2 h3 h4 => Keep.ofHeap h1 h2 h3 h4) (fun wd hd kd => ?_)
    (conv => whnf)
    refine VIdx.mul j rfl (by omega) hA ?_
    (conv => whnf)
    refine VLoad.by_ (fun x hx => hx.cell e0 id) ?_
    (conv => whnf)
    refine VIdx.mul j rfl (by omega) hB ?_
    (conv => whnf)
    refine VLoad.by_ (fun x hx => hx.cell g0 id) ?_
    (conv => whnf)
    refine VCmp.mk (fun h => absurd rfl h) (fun _ => ?_); (conv => whnf)
    refine VIdx.mul j rfl (by omega) hA ?_
    (conv => whnf)
    refine VLoad.by_ (fun x hx => hx.cell e3 id) ?_
    (conv => whnf)
    refine VIdx.mul j rfl (by omega) hB ?_
    (conv => whnf)
    refine VLoad.by_ (fun x hx => hx.cell g1 id) ?_
    (conv => whnf)
    refine VCmp.mk (fun h => absurd rfl h) (fun _ => ?_); (conv => whnf)
    refine VRes.i64 (by omega) ?_; (conv => whnf)
    exact ⟨j + 1, ⟨rfl, rfl, rfl, trivial⟩, ⟨by omega, kj.trans kd⟩, by omega⟩
  obtain ⟨x, hx⟩ : ∃ x, os[k]? = some x := ⟨_, List.getElem?_eq_getElem (by omega)⟩
  obtain ⟨b, o, A1, c1, hA, hkn, e0W, e1W, hc1, s1W, hX⟩ := dg_at ho hs hx
  have hx3 := hfl x (List.mem_of_getElem? hx)
  have kW := kp.trans kk
  have e0 := kW.cell e0W id
  have e1 := kW.cell e1W id
  have s1 := s1W.keepNo kW
  have hb := hb.keepNo kk
  refine VIdx.mul k rfl hkn hA ?_
  (conv => whnf)
  refine VLoad.by_ e1 ?_
  (conv => whnf)
  refine VCmp.mk (fun h => ?_) (fun h => ?_) <;> (conv => whnf)
  · exact ⟨rfl, kW⟩
  refine VDraw.by_ tt_ok rfl (.take 0 (.take 1 (.take 2 (.take 3 (.take 4 (.take 5 (.take 6 (.take 7 (.take 8 (.take 9 (.take 10 (.take 11 (.one 12 (.take 13 (.take 14 (.take 15 (.take 16 (.take 17 .done)))))))))))))))))) (by decide +kernel) _ (fun x h1 h2 h3 h4 => Keep.ofHeap h1 h2 h3 h4) (fun wd hd kd => ?_)
  have hb' := hb
  have e0' := e0
  have e1' := e1
  have kW := kW.keepNo kd; have kk := kk.keepNo kd; have hob := hob.keepNo kd; have how := how.keepNo kd; have hops := hops.keepNo kd; have s1 := s1.keepNo kd; have hb := hb.keepNo kd
  have e0 := kd.cell e0 id
  have e1 := kd.cell e1 id
  (conv => whnf)
  refine VIdx.mul k rfl hkn hA ?_
  (conv => whnf)
  refine VLoad.by_ (fun x hx => hx.cell e0' id) ?_
  (conv => whnf)
  refine VIdx.mul k rfl hkn hA ?_
  (conv => whnf)
  refine VLoad.by_ (fun x hx => hx.cell e1' id) ?_
  (conv => whnf)
  refine VLoads.two (fun x hx => (hb'.keepNo hx).cell 0) (fun x hx => (hb'.keepNo hx).cell 1) ?_
  (conv => whnf)
  refine (refWire_ok wd x.t f m s1 (by omega)).mono ?_
  rintro v w4 ⟨⟨A4, c4, rfl, ho4⟩, hk4⟩
  have kW := kW.keepNo hk4; have kk := kk.keepNo hk4; have hob := hob.keepNo hk4; have how := how.keepNo hk4; have hops := hops.keepNo hk4; have hb := hb.keepNo hk4
  have e0 := hk4.cell e0 id
  have e1 := hk4.cell e1 id
  have hwsh := wireP_short x.t x.data f m
  (conv => whnf)
  refine VOwe.to (fun _ => True) (fun h => absurd h (by decide +kernel)) trivial ?_; (conv => whnf)
  refine VCmp.mk (fun h0 => ?_) (fun h0 => ?_) <;> (conv => whnf)
  rotate_left 1
  · have e2 := wsOf_no f m os k x hx h0
    have e3 := bsOf_no f m os k x hx h0
    refine VRes.i64 (by omega) ?_; (conv => whnf)
    exact ⟨(k + 1, (Ab, cb), Aw, cw, cs), ⟨rfl, rfl, rfl, by rw [e3]; rfl, by rw [e2]; rfl, rfl, trivial⟩, ⟨by omega, by rw [e3]; exact hob, by rw [e2]; exact how, by rw [e2]; exact hops, take_snoc_p hx h300 (by omega), kk⟩, by dsimp only; omega⟩
  · have e2 := wsOf_yes f m os k x hx h0
    have e3 := bsOf_yes f m os k x hx h0
    refine appB kk hob (Sl.ofOwn ho4) (by omega) ?_
    intro A6 c6 w6 ho6 hk6 hkA
    have hlo : ∀ i, i < w2.heap.size → ¬ ownS Ab i := fun i hi ⟨a, ha, e⟩ => by have := (hob.base_ ha).1; have e : a.block = i := e; omega
    have how := how.keep hkA (fun a ha ⟨a5, ha5, e⟩ => ((how.ty ha).ne (hob.ty ha5) (by decide)) e.symm)
    have hops := hops.keep hkA (fun i hi => hlo i (by have hi : i < W.heap.size := hi; omega))
    have e0 := (kp.trans hk6).cell e0W id
    have e1 := (kp.trans hk6).cell e1W id
    (conv => whnf)
    refine VIdx.mul k rfl hkn hA ?_
    (conv => whnf)
    refine VLoads.two e0 e1 ?_
    (conv => whnf)
    refine VFill.by_ rfl ?_; (conv => whnf)
    refine ⟨fun w7 hb7 hk7 => ?_⟩; have hb7_lt := Blk.lt hb7; have hk7_sz := hk7.size; (conv => whnf)
    have kk := hk6
    have hob := ho6
    have kk := kk.keepNo hk7; have hob := hob.keepNo hk7; have how := how.keepNo hk7; have hops := hops.keepNo hk7
    have hone : Pk.Ops w7 (fun k => k < W.heap.size) [.int .i64 x.t, .slice A1 x.data.length c1] [x] := Pk.Ops.one_ hc1 (s1W.keepNo (kp.trans kk)) hX
    refine appD kk how (Sl.ofBlk (n := 1) (size := 2) hb7 rfl) hone.cells1 (by omega) ?_
    intro A9 c9 w9 ho9 hk9 hkB
    have hlo9 : ∀ i, i < w2.heap.size → ¬ ownS Aw i := fun i hi ⟨a, ha, e⟩ => by have := (how.base_ ha).1; have e : a.block = i := e; omega
    have hops9 := (hops.append hone).keep hkB (fun i hi => hlo9 i (by have hi : i < W.heap.size := hi; omega))
    have hob := hob.keep hkB (fun a ha ⟨a5, ha5, e⟩ => ((hob.ty ha).ne (how.ty ha5) (by decide)) e.symm)
    (conv => whnf)
    refine VRes.i64 (by omega) ?_; (conv => whnf)
    exact ⟨(k + 1, (A6, c6), A9, c9, _), ⟨rfl, rfl, rfl, by rw [e3, List.length_append]; rfl, by rw [e2, List.length_append]; rfl, rfl, trivial⟩, ⟨by omega, by rw [e3, List.length_append]; exact hob, by rw [e2, List.length_append]; exact ho9, by rw [e2]; exact hops9, take_snoc_p hx h300 (by omega), hk9⟩, by dsimp only; omega⟩

/-! ### The statement -/
theorem gateWires_own : ownKnob Tryd.prog.godebug = none := by kernel_rfl
theorem gateWires_laid : laidOutB Tryd.prog = true := by kernel_rfl
set_option maxRecDepth 100000 in
theorem gateWires_lifted (os : Os) (started : os.Started) (H : Type) (enc : TypeId × Value → H) :
    ReturnsInHanded {} Tryd.checked os 3 .any (fun w args => (Rows.gateWiresSpec.pre enc Tryd.prog Tryd.f3 Rows.gateWiresRow.domain false w args ∧ laidMetH Tryd.prog laidL w) ∧ sizedMet enc Tryd.prog Tryd.f3 (OpenSpec.ofChange Rows.gateWiresSpec) false w args) (Rows.gateWiresSpec.post enc Tryd.prog Tryd.f3 false true false false) := by
  refine returnsInHanded_of_change_and (C := Tryd.checked) (X := fun w _ => laidMetH Tryd.prog laidL w) (fun _ _ _ hh h => h.of_heap hh) gateWires_own started (by kernel_rfl) Tryd.func3
    (ChangeSpec.witness_at (enc := enc) (C := Tryd.checked) (os := os) (X := fun w _ => laidMetH Tryd.prog laidL w) false (laidWorld os) #[.slice none 0 0, .agg #[.bool false, .bool false], .int .u32 0] 8 rfl (by kernel_rfl) (by kernel_rfl) (by kernel_rfl) (by kernel_rfl) (by kernel_rfl) (laidWorld_met os _)) ?_
  intro W base args ds gs before hval0 hW hcnd _ hL _
  have hg := handle_of_laid hL
  have hval : ∀ (j : Nat) t v, Tryd.f3.params[j]? = some t → args[j]? = some v → Value.okWide Tryd.prog W .any base t v := hval0
  have hW' := hW
  obtain ⟨p, q, hA0, hV, rfl, hfz, hnd⟩ := hW
  have hA : DataW.TrodAll enc Tryd.prog W 0 (fun _ => true) true Tryd.f3.params.toList args.toList ds p := hA0
  rw [Tryd.params3] at hA hval
  obtain ⟨v0, vs0, d0, ds0, p0, q0, hargs, rfl, rfl, h0, r0⟩ := trodAll_cons hA
  obtain ⟨v1, vs1, d1, ds1, p1, q1, rfl, rfl, rfl, h1, r1⟩ := trodAll_cons r0
  obtain ⟨v2, vs2, d2, ds2, p2, q2, rfl, rfl, rfl, h2, r2⟩ := trodAll_cons r1
  obtain ⟨rfl, rfl, rfl⟩ := trodAll_nil r2
  obtain rfl : args = #[v0, v1, v2] := by cases args; simp_all
  obtain ⟨rfl, rfl⟩ := trodVars_none hV
  have k0 := h0
  have lt0 : ∀ x ∈ p0, x.block < W.heap.size := by obtain ⟨m, hm⟩ := k0; exact DataW.trod_lt m _ _ _ hm
  obtain ⟨aa0, la0, ca0, rfl⟩ := okWide_slice Tryd.underlying22 (hval 0 22 v0 rfl rfl)
  obtain ⟨fuel0, hf0⟩ := h0
  obtain ⟨A0, n0, c0, va0, l0, e0, s0, el0, nc0, cc0, fl0⟩ := open_dgs hf0
  cases e0
  have k1 := h1
  have lt1 : ∀ x ∈ p1, x.block < W.heap.size := by obtain ⟨m, hm⟩ := k1; exact DataW.trod_lt m _ _ _ hm
  obtain ⟨cs1, rfl, _⟩ := okWide_struct Tryd.underlying24 (hval 1 24 v1 rfl rfl)
  obtain ⟨fuel1, hf1⟩ := h1
  obtain ⟨fo1, e1⟩ := open_form hf1
  subst e1
  have k2 := h2
  have lt2 : ∀ x ∈ p2, x.block < W.heap.size := by obtain ⟨m, hm⟩ := k2; exact DataW.trod_lt m _ _ _ hm
  obtain ⟨a2, rfl, rfl, rfl, w2⟩ := open_int Tryd.underlying25 (hval 2 25 v2 rfl rfl) h2
  obtain ⟨m2, rfl⟩ := word_of w2
  clear hA0 hval0
  refine (VC.law (gateWires_ok W hg aa0 la0 ca0 va0 l0 s0 el0 nc0 cc0 fl0 fo1 m2)).mono fun e W' ⟨he, bel⟩ => ?_
  subst he
  exact ⟨_, rfl, _, _, _, [], _, [], hW', trodAll_mk1 (shut_bool Tryd.underlying4 _), (trodAll_cons_mk (Below.trod gateWires_laid (by kernel_rfl) (of_decide_eq_true (by kernel_rfl)) k0 bel lt0) (trodAll_cons_mk (Below.trod gateWires_laid (by kernel_rfl) (of_decide_eq_true (by kernel_rfl)) k1 bel lt1) (trodAll_cons_mk (Below.trod gateWires_laid (by kernel_rfl) (of_decide_eq_true (by kernel_rfl)) k2 bel lt2) trodAll_mk0))), rfl, bel.frame _, fun h => by cases h⟩

theorem gateWires_over : Rows.gateWiresRow.holds Tryd.pinned (OpenSpec.ofChange Rows.gateWiresSpec) :=
  OpenClaim.holds_of_wide 3 Tryd.f3 rfl rfl rfl rfl rfl rfl rfl ⟨rfl, rfl, rfl, rfl, rfl⟩ rfl rfl rfl rfl rfl (by kernel_rfl) Tryd.func3 (by kernel_rfl)
    (of_decide_eq_true (by kernel_rfl)) (by unfold Func.isWrapper; first | (rw [if_pos (by decide +kernel)]; kernel_rfl) | (rw [if_neg (by decide +kernel)]; exact ⟨rfl, rfl⟩))
    (fun os started H enc _ => gateWires_lifted os started H enc)


theorem gateWires_proved : Rows.GateWiresCardSaid :=
  Claim7.holds_tied_plain_at .later [] [.handle] true (true, "7db9daa1a0c26b0a4d8629d9a49f21a28a0de7136281b861cac71a81a6cff372") true
    gateWires_over (fun _ h => by cases h) (by kernel_rfl) (fun _ h => by cases h) gateWires_row_tie rfl ⟨rfl, rfl⟩ (by kernel_rfl) rfl
    (fun f fn hf hfn => by
      obtain rfl : f = 3 := Option.some.inj ((show Tryd.prog.funcNamed "fairlead/fairleadlaw26.GateWires" = some 3 by kernel_rfl).symm.trans hf) |>.symm
      obtain rfl : fn = Tryd.f3 := (Option.some.inj (Tryd.func3.symm.trans hfn)).symm
      exact ⟨by kernel_rfl, fun j t ht => by
        rw [Tryd.params3] at ht
        exact (match j, ht with
      | 0, ht => by obtain rfl : 22 = t := (by simpa using ht); kernel_rfl
      | 1, ht => by obtain rfl : 24 = t := (by simpa using ht); kernel_rfl
      | 2, ht => by obtain rfl : 25 = t := (by simpa using ht); kernel_rfl
      | j + 3, ht => by simp at ht)⟩)
    (by kernel_rfl)
#print axioms gateWires_proved
end Go.Proofs.YtpofkhjkdkkajaaDoor
