/-
  The document's table: a table made of lengths.
-/
import Derived.Test.YtgmopcbfgcagaaaDoorK5
namespace Go.Proofs.YtgmopcbfgcagaaaDoor
open Go V

/-- A fact of three things that the goal at its first use tells. -/
theorem withKey {A B C : Type _} {G : Prop} (T : A → B → C → Prop) {a : A} {b : B} {c : C} (use : T a b c → G) (mk : T a b c) : G := use mk
theorem VDraw.sub {P : Program} {tt : TT} {n : Nat} {ops : List Oper} {K : Fr → World → Prop} {fr F : Fr} {w : World} (h0 : fhas fr F) (h : VDraw P tt n ops K F w) : VDraw P tt n ops K fr w :=
  ⟨fun Q a id hr hq => h.h Q a id (hr.sub (fsub_of_has h0)) hq⟩
theorem VLoop.sub {P : Program} {tt : TT} {n : Nat} {c : Code} {Q : Exit → Fr → World → Prop} {fr F : Fr} {w : World} (h0 : fhas fr F) (h : VLoop P tt n c Q F w) : VLoop P tt n c Q fr w :=
  ⟨fun Q' a hr hq => h.h Q' a (hr.sub (fsub_of_has h0)) hq⟩

/-- The codes of the symbols of lengths below n, and of those of n ahead of i. -/
def codP (lens : List Nat) (n i : Nat) : List Nat := (List.range lens.length).map fun j => if 0 < lens.getD j 0 ∧ (lens.getD j 0 < n ∨ (lens.getD j 0 = n ∧ j < i)) then codeN lens j else 0
theorem codP_len (lens : List Nat) (n i : Nat) : (codP lens n i).length = lens.length := by simp [codP]
theorem codP_get (lens : List Nat) {n i j : Nat} (h : j < lens.length) : (codP lens n i)[j]? = some (if 0 < lens.getD j 0 ∧ (lens.getD j 0 < n ∨ (lens.getD j 0 = n ∧ j < i)) then codeN lens j else 0) := by
  unfold codP
  rw [List.getElem?_map, List.getElem?_range h]; rfl
theorem codP_zero (lens : List Nat) : codP lens 1 0 = List.replicate lens.length 0 := by
  unfold codP
  rw [List.eq_replicate_iff]
  refine ⟨by simp, fun x hx => ?_⟩
  obtain ⟨j, _, rfl⟩ := List.mem_map.1 hx
  rw [if_neg (by omega)]
theorem codP_next (lens : List Nat) (n : Nat) : codP lens n lens.length = codP lens (n + 1) 0 := by
  unfold codP
  refine List.map_congr_left fun j hj => ?_
  have hj := List.mem_range.1 hj
  by_cases h : 0 < lens.getD j 0 ∧ (lens.getD j 0 < n ∨ (lens.getD j 0 = n ∧ j < lens.length))
  · rw [if_pos h, if_pos (by omega)]
  · rw [if_neg h, if_neg (by omega)]
theorem codP_all (lens : List Nat) (h15 : ∀ i, lens.getD i 0 ≤ 15) : codP lens 16 0 = codesN lens := by
  unfold codP codesN
  refine List.map_congr_left fun j hj => ?_
  have := h15 j
  by_cases h : 0 < lens.getD j 0
  · rw [if_pos (by omega)]
  · rw [if_neg (by omega)]
    unfold codeN
    rw [if_pos (by omega)]
theorem codP_skip (lens : List Nat) {n i : Nat} (h : lens.getD i 0 ≠ n) : codP lens n (i + 1) = codP lens n i := by
  unfold codP
  refine List.map_congr_left fun j hj => ?_
  by_cases h1 : j = i
  · subst h1
    by_cases h2 : 0 < lens.getD j 0 ∧ (lens.getD j 0 < n ∨ (lens.getD j 0 = n ∧ j < j + 1))
    · rw [if_pos h2, if_pos (by omega)]
    · rw [if_neg h2, if_neg (by omega)]
  · by_cases h2 : 0 < lens.getD j 0 ∧ (lens.getD j 0 < n ∨ (lens.getD j 0 = n ∧ j < i + 1))
    · rw [if_pos h2, if_pos (by omega)]
    · rw [if_neg h2, if_neg (by omega)]
theorem codP_set (lens : List Nat) {n i : Nat} (hn : 1 ≤ n) (hi : i < lens.length) (h : lens.getD i 0 = n) : (codP lens n i).set i (codeN lens i) = codP lens n (i + 1) := by
  refine List.ext_getElem? fun j => ?_
  rcases Nat.lt_or_ge j lens.length with hj | hj
  · rw [List.getElem?_set]
    by_cases e : i = j
    · subst e
      rw [if_pos rfl, if_pos (by rw [codP_len]; exact hj), codP_get lens hj, if_pos (by omega)]
    · rw [if_neg e, codP_get lens hj, codP_get lens hj]
      by_cases h3 : 0 < lens.getD j 0 ∧ (lens.getD j 0 < n ∨ (lens.getD j 0 = n ∧ j < i))
      · rw [if_pos h3, if_pos (by omega)]
      · rw [if_neg h3, if_neg (by omega)]
  · rw [List.getElem?_eq_none (by rw [List.length_set, codP_len]; exact hj), List.getElem?_eq_none (by rw [codP_len]; exact hj)]
theorem rank_le (lens : List Nat) {n i : Nat} (hn : 1 ≤ n) (hn15 : n ≤ 15) (hi : i ≤ lens.length) : 2 * fstK (cntK lens lens.length) (n - 1) + (ordS lens n i).length ≤ fstK (cntK lens lens.length) n := by
  rw [fst_pred _ hn, cnt_ord lens hn hn15]
  have := ordS_mono lens n hi
  omega

/-- The table as its codes come to be. -/
def NtV (w w' : World) (t cbk : Nat) (L : Option Addr) (cl : Nat) (lens cods : List Nat) : Prop :=
  Blk w' t TTr [.slice L lens.length cl, .slice (some ⟨cbk, 0, none⟩) lens.length lens.length] ∧ Sl w' 1 L lens.length (lens.map nv) ∧ Blk w' cbk TId (cods.map nv) ∧ (∀ a, L = some a → a.block ≠ cbk ∧ Ty w' a.block TId) ∧ w.heap.size ≤ cbk ∧ Keep No w w'

set_option maxRecDepth 100000 in
set_option maxHeartbeats 4000000 in
theorem newTable_ok (w : World) {A : Option Addr} {n c : Nat} {lens : List Nat} (hs : Sl w 1 A n (lens.map nv)) (hn : n ≤ 320) (h15 : ∀ x ∈ lens, x ≤ 15) :
    VC Tryd.prog 62 [.slice A n c] w (fun v w' => (if wholeB (cntK lens n) = true then ∃ t, v = .tuple #[.pointer (some ⟨t, 0, none⟩), .int .i64 0] ∧ TabV w' t lens (codesN lens) else v = .tuple #[.pointer none, .int .i64 10]) ∧ Keep No w w') := by
  have hll : lens.length = n := by simpa using hs.len
  have hg15 : ∀ i, lens.getD i 0 ≤ 15 := getD_le15 h15
  refine VC.of tt_ok Tryd.func62 rfl (by decide +kernel) (Nat.le_of_ble_eq_true rfl) ?_; (conv => whnf)
  refine VCmp.mk (fun h => absurd h (by omega)) (fun _ => ?_); (conv => whnf)
  refine VLoop.by_ tt_ok (S := Nat) (fun k => [(0, .slice A n c), (4, .int .i64 (sumK (cntK lens k) 15 : Nat)), (5, .int .i64 (preK (cntK lens k) 15 : Nat)), (6, .int .i64 (sngK lens k : Nat)), (7, .int .i64 k)])
    (fun k w' => k ≤ n ∧ w' = w) (fun k => n - k) 0
    ⟨rfl, rfl, rfl, rfl, rfl, trivial⟩ ⟨by omega, rfl⟩ ?_
  rintro k w' ⟨hk, rfl⟩
  (conv => whnf)
  refine VCmp.mk (fun h => ?_) (fun h => ?_) <;> (conv => whnf)
  · have hx15 := hg15 k
    have hstep := sum_step lens k hx15
    have hpstep := pre_step lens k hx15
    obtain ⟨hsl, hpl⟩ := sumK_le (fun i => by have := cntK_le lens k i; omega) (cnt := cntK lens k) 15
    refine VIdx.nv hs k rfl (by omega) (fun b_ o_ hA_ hc_ => ?_)
    (conv => whnf)
    refine VLoad.by_ hc_ ?_
    (conv => whnf)
    refine VCmp.mk (fun h2 => absurd h2 (by omega)) (fun _ => ?_); (conv => whnf)
    refine VIdx.nv hs k rfl (by omega) (fun b_ o_ hA_ hc_ => ?_)
    (conv => whnf)
    refine VLoad.by_ hc_ ?_
    (conv => whnf)
    refine VCmp.mk (fun h2 => absurd h2 (by omega)) (fun _ => ?_); (conv => whnf)
    refine VIdx.nv hs k rfl (by omega) (fun b_ o_ hA_ hc_ => ?_)
    (conv => whnf)
    refine VLoad.by_ hc_ ?_
    (conv => whnf)
    refine VCmp.mk (fun h2 => ?_) (fun h2 => ?_) <;> (conv => whnf)
    · rw [if_pos (by omega)] at hstep hpstep
      have hpw : 2 ^ (15 - lens.getD k 0) ≤ 2 ^ 15 := Nat.pow_le_pow_right (by omega) (by omega)
      refine VIdx.nv hs k rfl (by omega) (fun b_ o_ hA_ hc_ => ?_)
      (conv => whnf)
      refine VLoad.by_ hc_ ?_
      (conv => whnf)
      refine VRes.i64 (by omega) ?_; (conv => whnf)
      refine VRes.u64 (by omega) ?_
      (conv => whnf)
      refine VReq.mk (by omega) ?_
      refine VRes.shlNat (N := 1) (s := 15 - lens.getD k 0) rfl (by omega) (by omega) (by omega) ?_
      (conv => whnf)
      refine VRes.i64 (by omega) ?_; (conv => whnf)
      refine VRes.i64 (by omega) ?_; (conv => whnf)
      refine VIdx.nv hs k rfl (by omega) (fun b_ o_ hA_ hc_ => ?_)
      (conv => whnf)
      refine VLoad.by_ hc_ ?_
      (conv => whnf)
      refine VRes.i64 (by omega) ?_; (conv => whnf)
      have hsg : sngK lens (k + 1) = lens.getD k 0 := by
        conv => lhs; unfold sngK
        rw [if_pos (by omega)]
      refine ⟨k + 1, ⟨rfl, ?_, ?_, ?_, rfl, trivial⟩, ⟨by omega, rfl⟩, by omega⟩
      · rw [hstep, show ((sumK (cntK lens k) 15 + 2 ^ (15 - lens.getD k 0) : Nat) : Int) = ((sumK (cntK lens k) 15 : Nat) : Int) + ((1 * 2 ^ (15 - lens.getD k 0) : Nat) : Int) from by omega]; rfl
      · rw [hpstep]; rfl
      · rw [hsg]; rfl
    · rw [if_neg (by omega)] at hstep hpstep
      have hsg : sngK lens (k + 1) = sngK lens k := by
        conv => lhs; unfold sngK
        rw [if_neg (by omega)]
      refine VRes.i64 (by omega) ?_; (conv => whnf)
      exact ⟨k + 1, ⟨rfl, by rw [hstep]; rfl, by rw [hpstep]; rfl, by rw [hsg]; rfl, rfl, trivial⟩, ⟨by omega, rfl⟩, by omega⟩
  obtain rfl : k = n := by omega
  have hwi := whole_iff lens hg15 k
  apply withKey (T := fun N ops K => ∀ fr, fhas fr [(0, .slice A k c)] → wholeB (cntK lens k) = true → VDraw Tryd.prog tt N ops K fr w')
  case use =>
    intro key
    refine VCmp.mk (fun g1 => ?_) (fun g1 => ?_) <;> (conv => whnf)
    · rw [if_neg (by rw [hwi.2 (.inl (by omega))]; decide)]
      exact ⟨rfl, Keep.refl _ _⟩
    refine VCmp.mk (fun g2 => ?_) (fun g2 => ?_) <;> (conv => whnf)
    · refine VCmp.mk (fun g3 => ?_) (fun g3 => ?_) <;> (conv => whnf)
      · exact key _ ⟨rfl, trivial⟩ (by rw [← Bool.not_eq_false, hwi]; omega)
      refine VCmp.mk (fun g4 => ?_) (fun g4 => ?_) <;> (conv => whnf)
      · refine VCmp.mk (fun g5 => ?_) (fun g5 => ?_) <;> (conv => whnf)
        · exact key _ ⟨rfl, trivial⟩ (by rw [← Bool.not_eq_false, hwi]; omega)
        · rw [if_neg (by rw [hwi.2 (.inr (by omega))]; decide)]
          exact ⟨rfl, Keep.refl _ _⟩
      · rw [if_neg (by rw [hwi.2 (.inr (by omega))]; decide)]
        exact ⟨rfl, Keep.refl _ _⟩
    · exact key _ ⟨rfl, trivial⟩ (by rw [← Bool.not_eq_false, hwi]; omega)
  intro fr hfr hw
  refine VDraw.sub hfr ?_
  have hw0 := hw
  rw [← hll] at hw
  clear hwi hfr
  apply withKey (T := fun N c0 Q => ∀ (fr : Fr) (w3 : World) (t cbk : Nat) (L : Option Addr) (cl : Nat), fhas fr [(0, .slice A k c), (8, .pointer (some ⟨t, 0, none⟩)), (9, .int .i64 0), (10, .int .i64 1)] → NtV w' w3 t cbk L cl lens (codP lens 1 0) → VLoop Tryd.prog tt N c0 Q fr w3)
  case use =>
    intro key
    refine VDraw.by_ tt_ok rfl (.take 1 (.take 3 (.take 4 (.two 0 (.two 2 (.one 5 (.take 6 (.one 7 (.take 8 .done)))) 5 (.one 2 (.take 6 (.one 7 (.take 8 .done))))) 5 (.one 0 (.one 2 (.take 6 (.one 7 (.take 8 .done))))))))) (by decide +kernel) _ (fun x h1 h2 h3 h4 => Keep.ofHeap h1 h2 h3 h4) (fun wd hd kd => ?_)
    (conv => whnf)
    have hsd := hs.keepNo kd
    have kd_sz := kd.size
    refine ⟨?_, ?_⟩
    · refine VFill.by_ rfl ?_; (conv => whnf)
      refine ⟨fun w1 hb1 k1 => ?_⟩
      have hb1_lt := Blk.lt hb1
      have k1_sz := k1.size
      have ho1 : Own w1 wd.heap.size TId 1 (some ⟨wd.heap.size, 0, none⟩) 0 0 [] := Own.new (n := 0) hb1 (Nat.le_refl _) rfl (by unfold maxLen; omega)
      (conv => whnf)
      refine VOwe.same (kd.trans k1) ?_
      (conv => whnf)
      refine ⟨?_, ?_⟩
      · refine VApp.own tt_ok (it := ty107) (ei := ty3) rfl rfl rfl (size := 1) rfl rfl (by omega) ho1 (hsd.keepNo k1) (nv_one lens) (by show (0 + k) * 8 ≤ _; omega) (by omega) k1.size ?_
        intro L cl w2 hoL k2 hat
        rw [Nat.zero_add, List.nil_append] at hoL
        rw [Nat.zero_add]
        have kd2 := kd.trans (k1.own ho1 k2)
        (conv => whnf)
        refine VOwe.same kd2 ?_
        (conv => whnf)
        refine VMake.row_ (n := k) (z := nv 0) (bytes := 8) Tryd.underlying107 (by kernel_rfl) rfl (by omega) (by omega) ?_
        intro w3 hc3 k3
        have kd3 := kd2.trans k3
        (conv => whnf)
        refine VOwe.same kd3 ?_
        (conv => whnf)
        refine VFill.by_ rfl ?_; (conv => whnf)
        refine ⟨fun w4 ht4 k4 => ?_⟩
        have kd4 := kd3.trans k4
        (conv => whnf)
        try (refine VOwe.same kd4 ?_; (conv => whnf))
        refine key _ w4 w3.heap.size w2.heap.size L cl ⟨rfl, rfl, rfl, rfl, trivial⟩ ?_
        unfold NtV
        rw [codP_zero, List.map_replicate, hll]
        exact ⟨ht4, (Sl.ofOwn hoL).keepNo (k3.trans k4), hc3.keepNo k4, fun a ha => ⟨by have := (hoL.ty ha).lt; omega, (hoL.ty ha).keepNo (k3.trans k4)⟩, kd2.size, kd4⟩
      · refine VMake.row_ (n := k) (z := nv 0) (bytes := 8) Tryd.underlying107 (by kernel_rfl) rfl (by omega) (by omega) ?_
        intro w2 hc2 k2
        have hc2_lt := Blk.lt hc2
        have kd2 := (kd.trans k1).trans k2
        (conv => whnf)
        refine VOwe.same kd2 ?_
        (conv => whnf)
        have ho2 := ho1.keepNo k2
        refine VApp.own tt_ok (it := ty107) (ei := ty3) rfl rfl rfl (size := 1) rfl rfl (by omega) ho2 ((hsd.keepNo k1).keepNo k2) (nv_one lens) (by show (0 + k) * 8 ≤ _; omega) (by omega) (k1.trans k2).size ?_
        intro L cl w3 hoL k3 hat
        rw [Nat.zero_add, List.nil_append] at hoL
        rw [Nat.zero_add]
        have kd3 := kd.trans ((k1.trans k2).own ho2 k3)
        have hc3 := hc2.keep k3 (fun ⟨a, ha, e⟩ => by cases ha; dsimp only at e; omega)
        (conv => whnf)
        refine VOwe.same kd3 ?_
        (conv => whnf)
        refine VFill.by_ rfl ?_; (conv => whnf)
        refine ⟨fun w4 ht4 k4 => ?_⟩
        have kd4 := kd3.trans k4
        (conv => whnf)
        try (refine VOwe.same kd4 ?_; (conv => whnf))
        refine key _ w4 w3.heap.size w1.heap.size L cl ⟨rfl, rfl, rfl, rfl, trivial⟩ ?_
        unfold NtV
        rw [codP_zero, List.map_replicate, hll]
        have hne : ∀ a, L = some a → a.block ≠ w1.heap.size := by
          intro a ha
          rcases hat a ha with ⟨a0, h0, e⟩ | e
          · cases h0; dsimp only at e; omega
          · omega
        exact ⟨ht4, (Sl.ofOwn hoL).keepNo k4, hc3.keepNo k4, fun a ha => ⟨hne a ha, (hoL.ty ha).keepNo k4⟩, (kd.trans k1).size, kd4⟩
    · refine VMake.row_ (n := k) (z := nv 0) (bytes := 8) Tryd.underlying107 (by kernel_rfl) rfl (by omega) (by omega) ?_
      intro w1 hc1 k1
      have hc1_lt := Blk.lt hc1
      have kd1 := kd.trans k1
      (conv => whnf)
      refine VOwe.same kd1 ?_
      (conv => whnf)
      refine VFill.by_ rfl ?_; (conv => whnf)
      refine ⟨fun w2 hb2 k2 => ?_⟩
      have hb2_lt := Blk.lt hb2
      have kd2 := kd1.trans k2
      have ho2 : Own w2 w1.heap.size TId 1 (some ⟨w1.heap.size, 0, none⟩) 0 0 [] := Own.new (n := 0) hb2 (Nat.le_refl _) rfl (by unfold maxLen; omega)
      (conv => whnf)
      refine VOwe.same kd2 ?_
      (conv => whnf)
      refine VApp.own tt_ok (it := ty107) (ei := ty3) rfl rfl rfl (size := 1) rfl rfl (by omega) ho2 ((hsd.keepNo k1).keepNo k2) (nv_one lens) (by show (0 + k) * 8 ≤ _; omega) (by omega) k2.size ?_
      intro L cl w3 hoL k3 hat
      rw [Nat.zero_add, List.nil_append] at hoL
      rw [Nat.zero_add]
      have kd3 := kd1.trans (k2.own ho2 k3)
      have hc3 := (hc1.keepNo k2).keep k3 (fun ⟨a, ha, e⟩ => by cases ha; dsimp only at e; omega)
      (conv => whnf)
      refine VOwe.same kd3 ?_
      (conv => whnf)
      refine VFill.by_ rfl ?_; (conv => whnf)
      refine ⟨fun w4 ht4 k4 => ?_⟩
      have kd4 := kd3.trans k4
      (conv => whnf)
      try (refine VOwe.same kd4 ?_; (conv => whnf))
      refine key _ w4 w3.heap.size wd.heap.size L cl ⟨rfl, rfl, rfl, rfl, trivial⟩ ?_
      unfold NtV
      rw [codP_zero, List.map_replicate, hll]
      have hne : ∀ a, L = some a → a.block ≠ wd.heap.size := by
        intro a ha
        rcases hat a ha with ⟨a0, h0, e⟩ | e
        · cases h0; dsimp only at e; omega
        · omega
      exact ⟨ht4, (Sl.ofOwn hoL).keepNo k4, hc3.keepNo k4, fun a ha => ⟨hne a ha, (hoL.ty ha).keepNo k4⟩, kd.size, kd4⟩
  intro fr w3 t cbk L cl hfr h3
  refine VLoop.sub hfr ?_
  refine VLoop.by_ tt_ok (S := Nat) (fun m => [(0, .slice A k c), (8, .pointer (some ⟨t, 0, none⟩)), (9, .int .i64 (fstK (cntK lens lens.length) m : Nat)), (10, .int .i64 ((m + 1 : Nat) : Int))])
    (fun m w4 => m ≤ 15 ∧ NtV w' w4 t cbk L cl lens (codP lens (m + 1) 0)) (fun m => 15 - m) 0 ⟨rfl, rfl, rfl, rfl, trivial⟩ ⟨by omega, h3⟩ ?_
  clear h3 hfr
  rintro m w4 ⟨hm, h4⟩
  (conv => whnf)
  refine VCmp.mk (fun g1 => ?_) (fun g1 => ?_) <;> (conv => whnf)
  rotate_left 1
  · obtain rfl : m = 15 := by omega
    rw [codP_all lens hg15] at h4
    obtain ⟨q1, q2, q3, q4, q5, q6⟩ := h4
    rw [if_pos hw0]
    exact ⟨⟨t, rfl, codesN_len lens, L, cl, _, _, q1, q2, Sl.ofBlk (n := lens.length) (size := 1) q3 (by rw [List.length_map, codesN_len, Nat.mul_one]), fun a ha => (q4 a ha).2, fun a ha => by cases ha; exact q3.ty⟩, q6⟩
  have hfb := fst_le hw (n := m + 1) (by omega)
  have hfm : fstK (cntK lens lens.length) (m + 1) = 2 * fstK (cntK lens lens.length) m + (cntK lens lens.length).getD (m + 1) 0 := rfl
  have hpw : 2 ^ (m + 1) ≤ 2 ^ 15 := Nat.pow_le_pow_right (by omega) (by omega)
  refine VReq.mk (by omega) ?_
  refine VRes.shlNat (N := fstK (cntK lens lens.length) m) (s := 1) rfl rfl (by omega) (by omega) ?_
  (conv => whnf)
  refine VLoop.by_ tt_ok (S := Nat) (fun i => [(0, .slice A k c), (8, .pointer (some ⟨t, 0, none⟩)), (9, .int .i64 (2 * fstK (cntK lens lens.length) m + (ordS lens (m + 1) i).length : Nat)), (10, .int .i64 ((m + 1 : Nat) : Int)), (11, .int .i64 i)])
    (fun i w4 => i ≤ k ∧ NtV w' w4 t cbk L cl lens (codP lens (m + 1) i)) (fun i => k - i) 0 ⟨rfl, rfl, by rw [show (ordS lens (m + 1) 0).length = 0 from rfl, Nat.add_zero, Nat.mul_comm]; rfl, rfl, rfl, trivial⟩ ⟨by omega, h4⟩ ?_
  clear h4
  rintro i w5 ⟨hi, h5⟩
  have h50 := h5
  obtain ⟨q1, q2, q3, q4, q5, q6⟩ := h5
  have hs5 := hs.keepNo q6
  have hrk := rank_le lens (n := m + 1) (i := i) (by omega) (by omega) (by omega)
  rw [Nat.add_sub_cancel] at hrk
  have hos := ordS_succ lens (m + 1) i
  (conv => whnf)
  refine VCmp.mk (fun g2 => ?_) (fun g2 => ?_) <;> (conv => whnf)
  rotate_left 1
  · obtain rfl : i = k := by omega
    refine VRes.i64 (by omega) ?_; (conv => whnf)
    have e : 2 * fstK (cntK lens lens.length) m + (ordS lens (m + 1) i).length = fstK (cntK lens lens.length) (m + 1) := by
      rw [hfm, cnt_ord lens (by omega) (by omega), hll]
    refine ⟨m + 1, ⟨rfl, rfl, by rw [← e]; rfl, rfl, trivial⟩, ⟨by omega, by rw [← codP_next, hll]; exact h50⟩, by omega⟩
  refine VIdx.nv hs5 i rfl (by omega) (fun b_ o_ hA_ hc_ => ?_)
  (conv => whnf)
  refine VLoad.by_ hc_ ?_
  (conv => whnf)
  refine VCmp.mk (fun g3 => ?_) (fun g3 => ?_) <;> (conv => whnf)
  · have hli : lens.getD i 0 = m + 1 := by omega
    rw [if_pos hli] at hos
    have hci := codeN_own lens (n := m + 1) (i := i) (by omega) hli
    rw [Nat.add_sub_cancel] at hci
    refine VLoad.by_ (q1.cell 1) ?_
    (conv => whnf)
    refine VIdx.one i rfl (by omega) rfl ?_
    (conv => whnf)
    refine VStore.one q3 (by rw [List.length_map, codP_len]; omega) ?_
    intro w6 hc6 k6 _
    rw [Nat.zero_add] at hc6
    (conv => whnf)
    refine VRes.i64 (by omega) ?_; (conv => whnf)
    refine VRes.i64 (by omega) ?_; (conv => whnf)
    refine ⟨i + 1, ⟨rfl, rfl, ?_, rfl, rfl, trivial⟩, ⟨by omega, ?_⟩, by omega⟩
    · rw [hos, ← Nat.add_assoc]; rfl
    · refine ⟨q1.keep k6 (q1.ne q3 (by decide)), q2.keep k6 (fun a ha => (q4 a ha).1), ?_, fun a ha => ⟨(q4 a ha).1, (q4 a ha).2.keep k6 (q4 a ha).1⟩, q5, q6.fresh_ k6 q5⟩
      rw [← codP_set lens (by omega) (by omega) hli, List.map_set, hci]
      exact hc6
  · have hli : lens.getD i 0 ≠ m + 1 := by omega
    rw [if_neg hli, Nat.add_zero] at hos
    refine VRes.i64 (by omega) ?_; (conv => whnf)
    exact ⟨i + 1, ⟨rfl, rfl, by rw [hos]; rfl, rfl, rfl, trivial⟩, ⟨by omega, by rw [codP_skip lens hli]; exact h50⟩, by omega⟩
end Go.Proofs.YtgmopcbfgcagaaaDoor
