/-
  Package inflate: a row of lengths, read by a code.
-/
import Derived.Test.YtgmopcbfgcagaaaDoorI14
namespace Go.Proofs.YtgmopcbfgcagaaaDoor
open Go V

theorem InfV.keepTy {w w' : World} {base x rb : Nat} {Ar : Option Addr} {cr : Nat} {A : Option Addr} {c : Nat} {s : IS} (h : InfV w base x rb Ar cr A c s) {S : Nat → Prop} {t : TypeId} (hS : ∀ i, S i → Ty w i t) (h1 : TRe ≠ t) (h2 : TRd ≠ t) (h3 : T8 ≠ t) (k : Keep S w w') : InfV w' base x rb Ar cr A c s :=
  h.keep k (fun e => h.1.ty.ne (hS _ e) h1 rfl) (fun e => h.2.1.1.ty.ne (hS _ e) h2 rfl) (fun i ⟨_, ha, e⟩ e' => (h.2.2.1.ty ha).ne (hS _ e') h3 e) (fun i ⟨a, ha, e⟩ e' => (h.2.2.2.2.2 a ha).2.1.ne (hS _ e') h3 e)
theorem keep_new {S T : Nat → Prop} {w w1 w2 : World} (h : Keep S w w1) (k : Keep T w1 w2) (hT : ∀ i, T i → w.heap.size ≤ i) : Keep S w w2 :=
  ⟨k.os.trans h.os, k.tape.trans h.tape, k.output.trans h.output, Nat.le_trans h.size k.size, fun j hj hn => by rw [k.block j (by have := h.size; omega) (fun e => by have := hT j e; omega), h.block j hj hn]⟩

/-- What a symbol says: what is said again, how often at least, by how many bits it is more. -/
def repF (r : List Nat) (y : Nat) : Option (Nat × Nat × Nat) :=
  if y = 16 then (if r.length = 0 then none else some (r.getD (r.length - 1) 0, 3, 2)) else if y = 17 then some (0, 3, 3) else if y = 18 then some (0, 11, 7) else some (y, 1, 0)
def rowF (cnt ord : List Nat) (want : Nat) : Nat → List Nat → IS → Except Nat (List Nat × IS)
  | 0, _, _ => .error 0
  | f + 1, r, s => if want ≤ r.length then .ok (r, s) else
    if (takeF cnt ord s.l s.at_).2.1 ≠ 0 then .error (takeF cnt ord s.l s.at_).2.1 else
    match repF r (takeF cnt ord s.l s.at_).1 with
    | none => .error 10
    | some (v, n, b) => if 8 * s.l.length < (takeF cnt ord s.l s.at_).2.2 + b then .error 2 else
      if want - r.length < n + numL s.l (takeF cnt ord s.l s.at_).2.2 b then .error 10 else
      rowF cnt ord want f (r ++ List.replicate (n + numL s.l (takeF cnt ord s.l s.at_).2.2 b) v) { s with at_ := (takeF cnt ord s.l s.at_).2.2 + b }

set_option maxRecDepth 100000 in
set_option maxHeartbeats 4000000 in
theorem row_ok (w : World) {base x rb : Nat} {Ar : Option Addr} {cr : Nat} {A : Option Addr} {c : Nat} {s : IS} (h : InfV w base x rb Ar cr A c s) (hf : Fine s) {t : Nat} {cnt ord : List Nat} (ht : TblV w t cnt ord) (hok : TbOk cnt ord) {want : Nat} (hw : want ≤ 400) :
    VC Tryd.prog 52 [.pointer (some ⟨x, 0, none⟩), .pointer (some ⟨t, 0, none⟩), .int .i64 want] w
      (fun v w' => (match rowF cnt ord want (want + 1) [] s with | .error e => ∃ E, v = .tuple #[.slice none 0 0, E] ∧ BadV w' E e | .ok (r, s') => ∃ A' c', v = .tuple #[.slice A' r.length c', .nilIface] ∧ Own w' w.heap.size TId 1 A' r.length c' (r.map nv) ∧ InfV w' base x rb Ar cr A c s') ∧ Keep (fun k => k = rb) w w') := by
  obtain ⟨F, hF⟩ : ∃ F, F = rowF cnt ord want (want + 1) [] s := ⟨_, rfl⟩
  rw [← hF]
  have noR : ∀ {w1 w2 : World}, Keep No w1 w2 → Keep (fun k => k = rb) w1 w2 := fun k => k.mono fun _ _ h => h.elim
  have hrd := h.2.1.1
  refine VC.of tt_ok Tryd.func52 rfl (by decide +kernel) (Nat.le_of_ble_eq_true rfl) ?_; (conv => whnf)
  refine VLoop.by_ tt_ok (S := Nat × List Nat × IS × Option Addr × Nat) (fun | (f, r, sk, Al, cl) => [(0, .pointer (some ⟨x, 0, none⟩)), (1, .pointer (some ⟨t, 0, none⟩)), (2, .int .i64 want), (8, .slice Al r.length cl)])
    (fun | (f, r, sk, Al, cl) => fun w' => Fine sk ∧ want < f + r.length ∧ r.length ≤ want ∧ F = rowF cnt ord want f r sk ∧ Own w' w.heap.size TId 1 Al r.length cl (r.map nv) ∧ InfV w' base x rb Ar cr A c sk ∧ Keep (fun k => k = rb) w w') (fun | (f, _, _, _, _) => f)
    (want + 1, [], s, none, 0) ⟨rfl, rfl, rfl, rfl, trivial⟩ ⟨hf, by simp, by simp, hF, Own.nil _ _ _ _, h, Keep.refl _ _⟩ ?_
  clear hF hf
  rintro ⟨f, r, sk, Al, cl⟩ w3 ⟨hf, hfu, hr, hF, ho, h3, kp⟩
  obtain ⟨f1, f2, f3, f4, f5⟩ := hf
  obtain ⟨g, rfl⟩ : ∃ g, f = g + 1 := ⟨f - 1, by omega⟩
  have ht3 : TblV w3 t cnt ord := ht.keep kp (fun i hty e => by
    subst e
    rcases hty with g | g
    · exact g.ne hrd.ty (by decide) rfl
    · exact g.ne hrd.ty (by decide) rfl)
  have hrb : ∀ {a : Addr}, Al = some a → ¬ a.block = rb := fun ha e => (ho.ty ha).ne h3.2.1.1.ty (by decide) e
  obtain ⟨hp1, hp2, hp3⟩ := takeF_pos cnt ord sk.l sk.at_ f2
  have herr := takeK_err cnt ord sk.l 15 1 0 0 0 sk.at_
  have hsym := takeK_sym cnt ord sk.l hok.2.2 15 1 0 0 0 sk.at_
  unfold rowF at hF
  obtain ⟨T, hT⟩ : ∃ T, T = takeF cnt ord sk.l sk.at_ := ⟨_, rfl⟩
  have herr : T.2.1 ≤ 10 := by rw [hT]; exact herr
  have hsym : T.1 < 1000 := by rw [hT]; exact hsym
  rw [← hT] at hF hp1 hp2 hp3
  obtain ⟨y, er, p⟩ := T
  dsimp only at hF hp1 hp2 hp3 herr hsym
  (conv => whnf)
  refine VCmp.mk (fun g0 => ?_) (fun g0 => ?_) <;> (conv => whnf)
  rotate_left 1
  · rw [if_pos (by omega)] at hF
    subst hF
    exact ⟨⟨Al, cl, rfl, ho, h3⟩, kp⟩
  rw [if_neg (by omega)] at hF
  refine VLoad.by_ (h3.1.cell 0) ?_
  (conv => whnf)
  refine (tbTake_ok w3 ht3 hok.1 hok.2.1 h3.2.1 f1 (by omega) (fun a ha => (h3.arb a ha).1)).mono ?_
  rintro v w4 ⟨rfl, hr4, k4⟩
  rw [← hT] at hr4
  rw [← hT]
  have h4 := h3.move k4 hr4
  dsimp only at hr4 h4
  have kp4 := kp.trans k4
  have ho4 := ho.keep k4 (fun a ha => hrb ha)
  (conv => whnf)
  refine VCmp.mk (fun g1 => ?_) (fun g1 => ?_) <;> (conv => whnf)
  · have g1 : (er : Int) ≠ 0 := g1
    rw [if_pos (by omega)] at hF
    subst hF
    refine (bad_ok w4 er (by omega)).mono ?_
    rintro v w5 ⟨hE, k5⟩
    (conv => whnf)
    exact ⟨⟨_, rfl, hE⟩, kp4.trans (noR k5)⟩
  have g1 : ¬ (er : Int) ≠ 0 := g1
  rw [if_neg (by omega)] at hF
  unfold repF at hF
  refine VCmp.mk (fun g2 => ?_) (fun g2 => ?_) <;> (conv => whnf)
  · have g2 : (y : Int) = 16 := g2
    rw [if_pos (by omega)] at hF
    refine VCmp.mk (fun g3 => ?_) (fun g3 => ?_) <;> (conv => whnf)
    · rw [if_pos (by omega)] at hF
      subst hF
      refine (bad_ok w4 10 (by omega)).mono ?_
      rintro v w5 ⟨hE, k5⟩
      (conv => whnf)
      exact ⟨⟨_, rfl, hE⟩, kp4.trans (noR k5)⟩
    rw [if_neg (by omega)] at hF
    dsimp only at hF
    refine VRes.i64 (by omega) ?_; (conv => whnf)
    refine VIdx.nv (Sl.ofOwn ho4) (r.length - 1) (by omega) (by omega) (fun b_ o_ hA_ hc_ => ?_)
    (conv => whnf)
    refine VLoad.by_ hc_ ?_
    (conv => whnf)
    refine (iTake_ok w4 h4 f1 (by dsimp only; omega) (n := 2) (by omega)).mono ?_
    rintro v w5 ⟨hv, k5⟩
    dsimp only at hv
    have kp5 := kp4.trans k5
    by_cases g9 : p + 2 ≤ 8 * sk.l.length
    · rw [if_pos g9] at hv
      rw [if_neg (by omega)] at hF
      obtain ⟨rfl, h5⟩ := hv
      have h5 : InfV w5 base x rb Ar cr A c { sk with at_ := p + 2 } := h5
      have ho5 := ho4.keep k5 (fun a ha => hrb ha)
      have hnb := numL_small sk.l p 2 (by omega)
      obtain ⟨N, hN⟩ : ∃ N, N = 3 + numL sk.l p 2 := ⟨_, rfl⟩
      have hN1 : 0 < N := by omega
      rw [← hN] at hF
      (conv => whnf)
      refine VRes.to (v' := .int .i64 ((N : Nat) : Int)) (by rw [wrap_i64 (by omega)]; exact congrArg _ (by omega)) ?_
      (conv => whnf)
      refine VRes.i64 (by omega) ?_; (conv => whnf)
      refine VCmp.mk (fun ga => ?_) (fun ga => ?_) <;> (conv => whnf)
      · rw [if_pos (by omega)] at hF
        subst hF
        refine (bad_ok w5 10 (by omega)).mono ?_
        rintro v w6 ⟨hE, k6⟩
        (conv => whnf)
        exact ⟨⟨_, rfl, hE⟩, kp5.trans (noR k6)⟩
      rw [if_neg (by omega)] at hF
      refine VLoop.by_ tt_ok (S := Nat × Option Addr × Nat) (fun | (i, Ai, ci) => [(0, .pointer (some ⟨x, 0, none⟩)), (1, .pointer (some ⟨t, 0, none⟩)), (2, .int .i64 want), (8, .slice Ai (r.length + i) ci), (11, .int .i64 ((r.getD (r.length - 1) 0) : Nat)), (70, .int .i64 N), (71, .int .i64 i)])
        (fun | (i, Ai, ci) => fun w' => i ≤ N ∧ Own w' w.heap.size TId 1 Ai (r.length + i) ci ((r ++ List.replicate i ((r.getD (r.length - 1) 0))).map nv) ∧ InfV w' base x rb Ar cr A c { sk with at_ := p + 2 } ∧ Keep (fun k => k = rb) w w') (fun | (i, _, _) => N - i)
        (0, Al, cl) ⟨rfl, rfl, rfl, rfl, rfl, rfl, rfl, trivial⟩ ⟨by omega, by rw [List.replicate_zero, List.append_nil]; exact ho5, h5, kp5⟩ ?_
      rintro ⟨i, Ai, ci⟩ w6 ⟨hi, ho6, h6, kp6⟩
      (conv => whnf)
      refine VCmp.mk (fun gb => ?_) (fun gb => ?_) <;> (conv => whnf)
      · refine VFill.by_ rfl ?_
        (conv => whnf)
        refine ⟨fun w7 hb7 k7 => ?_⟩
        have kp7 := kp6.trans (noR k7)
        have ho7 := ho6.keepNo k7
        have h7 := h6.keepNo k7
        have hs7 : Sl w7 1 (some ⟨w6.heap.size, 0, none⟩) 1 (([(r.getD (r.length - 1) 0)] : List Nat).map nv) := Sl.ofBlk (n := 1) (size := 1) hb7 rfl
        (conv => whnf)
        refine VApp.own tt_ok (it := ty107) (ei := ty3) rfl rfl rfl (size := 1) rfl rfl (by omega) ho7 hs7 (nv_one [(r.getD (r.length - 1) 0)]) (by show (r.length + i + 1) * 8 ≤ _; omega) (by omega) kp7.size ?_
        intro A8 c8 w8 ho8 k8 _
        have h8 := h7.keepTy (t := TId) (fun j ⟨a, ha, e⟩ => e ▸ ho7.ty ha) (by decide) (by decide) (by decide) k8
        have kp8 := keep_new kp7 k8 (fun j ⟨a, ha, e⟩ => e ▸ (ho7.base_ ha).1)
        (conv => whnf)
        refine VRes.i64 (by omega) ?_; (conv => whnf)
        exact ⟨(i + 1, A8, c8), ⟨rfl, rfl, rfl, rfl, rfl, rfl, rfl, trivial⟩, ⟨by omega, by rw [List.replicate_succ', ← List.append_assoc, List.map_append]; exact ho8, h8, kp8⟩, by dsimp only; omega⟩
      obtain rfl : i = N := by omega
      have el : r.length + i = (r ++ List.replicate i ((r.getD (r.length - 1) 0))).length := by rw [List.length_append, List.length_replicate]
      refine ⟨(g, r ++ List.replicate i ((r.getD (r.length - 1) 0)), { sk with at_ := p + 2 }, Ai, ci), ⟨rfl, rfl, rfl, ?_, trivial⟩, ⟨⟨f1, g9, f3, f4, f5⟩, by rw [← el]; omega, by rw [← el]; omega, hF, by rw [← el]; exact ho6, h6, kp6⟩, by dsimp only; omega⟩
      rw [← el]; rfl
    · rw [if_neg g9] at hv
      rw [if_pos (by omega)] at hF
      obtain ⟨E, rfl, hE⟩ := hv
      obtain ⟨eb, he⟩ := hE.form
      subst hF
      subst he
      (conv => whnf)
      exact ⟨⟨_, rfl, hE⟩, kp5⟩
  have g2 : ¬ (y : Int) = 16 := g2
  rw [if_neg (by omega)] at hF
  refine VCmp.mk (fun g3 => ?_) (fun g3 => ?_) <;> (conv => whnf)
  · have g3 : (y : Int) = 17 := g3
    rw [if_pos (by omega)] at hF
    dsimp only at hF
    refine (iTake_ok w4 h4 f1 (by dsimp only; omega) (n := 3) (by omega)).mono ?_
    rintro v w5 ⟨hv, k5⟩
    dsimp only at hv
    have kp5 := kp4.trans k5
    by_cases g9 : p + 3 ≤ 8 * sk.l.length
    · rw [if_pos g9] at hv
      rw [if_neg (by omega)] at hF
      obtain ⟨rfl, h5⟩ := hv
      have h5 : InfV w5 base x rb Ar cr A c { sk with at_ := p + 3 } := h5
      have ho5 := ho4.keep k5 (fun a ha => hrb ha)
      have hnb := numL_small sk.l p 3 (by omega)
      obtain ⟨N, hN⟩ : ∃ N, N = 3 + numL sk.l p 3 := ⟨_, rfl⟩
      have hN1 : 0 < N := by omega
      rw [← hN] at hF
      (conv => whnf)
      refine VRes.to (v' := .int .i64 ((N : Nat) : Int)) (by rw [wrap_i64 (by omega)]; exact congrArg _ (by omega)) ?_
      (conv => whnf)
      refine VRes.i64 (by omega) ?_; (conv => whnf)
      refine VCmp.mk (fun ga => ?_) (fun ga => ?_) <;> (conv => whnf)
      · rw [if_pos (by omega)] at hF
        subst hF
        refine (bad_ok w5 10 (by omega)).mono ?_
        rintro v w6 ⟨hE, k6⟩
        (conv => whnf)
        exact ⟨⟨_, rfl, hE⟩, kp5.trans (noR k6)⟩
      rw [if_neg (by omega)] at hF
      refine VLoop.by_ tt_ok (S := Nat × Option Addr × Nat) (fun | (i, Ai, ci) => [(0, .pointer (some ⟨x, 0, none⟩)), (1, .pointer (some ⟨t, 0, none⟩)), (2, .int .i64 want), (8, .slice Ai (r.length + i) ci), (11, .int .i64 (0 : Nat)), (70, .int .i64 N), (71, .int .i64 i)])
        (fun | (i, Ai, ci) => fun w' => i ≤ N ∧ Own w' w.heap.size TId 1 Ai (r.length + i) ci ((r ++ List.replicate i (0)).map nv) ∧ InfV w' base x rb Ar cr A c { sk with at_ := p + 3 } ∧ Keep (fun k => k = rb) w w') (fun | (i, _, _) => N - i)
        (0, Al, cl) ⟨rfl, rfl, rfl, rfl, rfl, rfl, rfl, trivial⟩ ⟨by omega, by rw [List.replicate_zero, List.append_nil]; exact ho5, h5, kp5⟩ ?_
      rintro ⟨i, Ai, ci⟩ w6 ⟨hi, ho6, h6, kp6⟩
      (conv => whnf)
      refine VCmp.mk (fun gb => ?_) (fun gb => ?_) <;> (conv => whnf)
      · refine VFill.by_ rfl ?_
        (conv => whnf)
        refine ⟨fun w7 hb7 k7 => ?_⟩
        have kp7 := kp6.trans (noR k7)
        have ho7 := ho6.keepNo k7
        have h7 := h6.keepNo k7
        have hs7 : Sl w7 1 (some ⟨w6.heap.size, 0, none⟩) 1 (([0] : List Nat).map nv) := Sl.ofBlk (n := 1) (size := 1) hb7 rfl
        (conv => whnf)
        refine VApp.own tt_ok (it := ty107) (ei := ty3) rfl rfl rfl (size := 1) rfl rfl (by omega) ho7 hs7 (nv_one [0]) (by show (r.length + i + 1) * 8 ≤ _; omega) (by omega) kp7.size ?_
        intro A8 c8 w8 ho8 k8 _
        have h8 := h7.keepTy (t := TId) (fun j ⟨a, ha, e⟩ => e ▸ ho7.ty ha) (by decide) (by decide) (by decide) k8
        have kp8 := keep_new kp7 k8 (fun j ⟨a, ha, e⟩ => e ▸ (ho7.base_ ha).1)
        (conv => whnf)
        refine VRes.i64 (by omega) ?_; (conv => whnf)
        exact ⟨(i + 1, A8, c8), ⟨rfl, rfl, rfl, rfl, rfl, rfl, rfl, trivial⟩, ⟨by omega, by rw [List.replicate_succ', ← List.append_assoc, List.map_append]; exact ho8, h8, kp8⟩, by dsimp only; omega⟩
      obtain rfl : i = N := by omega
      have el : r.length + i = (r ++ List.replicate i (0)).length := by rw [List.length_append, List.length_replicate]
      refine ⟨(g, r ++ List.replicate i (0), { sk with at_ := p + 3 }, Ai, ci), ⟨rfl, rfl, rfl, ?_, trivial⟩, ⟨⟨f1, g9, f3, f4, f5⟩, by rw [← el]; omega, by rw [← el]; omega, hF, by rw [← el]; exact ho6, h6, kp6⟩, by dsimp only; omega⟩
      rw [← el]; rfl
    · rw [if_neg g9] at hv
      rw [if_pos (by omega)] at hF
      obtain ⟨E, rfl, hE⟩ := hv
      obtain ⟨eb, he⟩ := hE.form
      subst hF
      subst he
      (conv => whnf)
      exact ⟨⟨_, rfl, hE⟩, kp5⟩
  have g3 : ¬ (y : Int) = 17 := g3
  rw [if_neg (by omega)] at hF
  refine VCmp.mk (fun g4 => ?_) (fun g4 => ?_) <;> (conv => whnf)
  · have g4 : (y : Int) = 18 := g4
    rw [if_pos (by omega)] at hF
    dsimp only at hF
    refine (iTake_ok w4 h4 f1 (by dsimp only; omega) (n := 7) (by omega)).mono ?_
    rintro v w5 ⟨hv, k5⟩
    dsimp only at hv
    have kp5 := kp4.trans k5
    by_cases g9 : p + 7 ≤ 8 * sk.l.length
    · rw [if_pos g9] at hv
      rw [if_neg (by omega)] at hF
      obtain ⟨rfl, h5⟩ := hv
      have h5 : InfV w5 base x rb Ar cr A c { sk with at_ := p + 7 } := h5
      have ho5 := ho4.keep k5 (fun a ha => hrb ha)
      have hnb := numL_small sk.l p 7 (by omega)
      obtain ⟨N, hN⟩ : ∃ N, N = 11 + numL sk.l p 7 := ⟨_, rfl⟩
      have hN1 : 0 < N := by omega
      rw [← hN] at hF
      (conv => whnf)
      refine VRes.to (v' := .int .i64 ((N : Nat) : Int)) (by rw [wrap_i64 (by omega)]; exact congrArg _ (by omega)) ?_
      (conv => whnf)
      refine VRes.i64 (by omega) ?_; (conv => whnf)
      refine VCmp.mk (fun ga => ?_) (fun ga => ?_) <;> (conv => whnf)
      · rw [if_pos (by omega)] at hF
        subst hF
        refine (bad_ok w5 10 (by omega)).mono ?_
        rintro v w6 ⟨hE, k6⟩
        (conv => whnf)
        exact ⟨⟨_, rfl, hE⟩, kp5.trans (noR k6)⟩
      rw [if_neg (by omega)] at hF
      refine VLoop.by_ tt_ok (S := Nat × Option Addr × Nat) (fun | (i, Ai, ci) => [(0, .pointer (some ⟨x, 0, none⟩)), (1, .pointer (some ⟨t, 0, none⟩)), (2, .int .i64 want), (8, .slice Ai (r.length + i) ci), (11, .int .i64 (0 : Nat)), (70, .int .i64 N), (71, .int .i64 i)])
        (fun | (i, Ai, ci) => fun w' => i ≤ N ∧ Own w' w.heap.size TId 1 Ai (r.length + i) ci ((r ++ List.replicate i (0)).map nv) ∧ InfV w' base x rb Ar cr A c { sk with at_ := p + 7 } ∧ Keep (fun k => k = rb) w w') (fun | (i, _, _) => N - i)
        (0, Al, cl) ⟨rfl, rfl, rfl, rfl, rfl, rfl, rfl, trivial⟩ ⟨by omega, by rw [List.replicate_zero, List.append_nil]; exact ho5, h5, kp5⟩ ?_
      rintro ⟨i, Ai, ci⟩ w6 ⟨hi, ho6, h6, kp6⟩
      (conv => whnf)
      refine VCmp.mk (fun gb => ?_) (fun gb => ?_) <;> (conv => whnf)
      · refine VFill.by_ rfl ?_
        (conv => whnf)
        refine ⟨fun w7 hb7 k7 => ?_⟩
        have kp7 := kp6.trans (noR k7)
        have ho7 := ho6.keepNo k7
        have h7 := h6.keepNo k7
        have hs7 : Sl w7 1 (some ⟨w6.heap.size, 0, none⟩) 1 (([0] : List Nat).map nv) := Sl.ofBlk (n := 1) (size := 1) hb7 rfl
        (conv => whnf)
        refine VApp.own tt_ok (it := ty107) (ei := ty3) rfl rfl rfl (size := 1) rfl rfl (by omega) ho7 hs7 (nv_one [0]) (by show (r.length + i + 1) * 8 ≤ _; omega) (by omega) kp7.size ?_
        intro A8 c8 w8 ho8 k8 _
        have h8 := h7.keepTy (t := TId) (fun j ⟨a, ha, e⟩ => e ▸ ho7.ty ha) (by decide) (by decide) (by decide) k8
        have kp8 := keep_new kp7 k8 (fun j ⟨a, ha, e⟩ => e ▸ (ho7.base_ ha).1)
        (conv => whnf)
        refine VRes.i64 (by omega) ?_; (conv => whnf)
        exact ⟨(i + 1, A8, c8), ⟨rfl, rfl, rfl, rfl, rfl, rfl, rfl, trivial⟩, ⟨by omega, by rw [List.replicate_succ', ← List.append_assoc, List.map_append]; exact ho8, h8, kp8⟩, by dsimp only; omega⟩
      obtain rfl : i = N := by omega
      have el : r.length + i = (r ++ List.replicate i (0)).length := by rw [List.length_append, List.length_replicate]
      refine ⟨(g, r ++ List.replicate i (0), { sk with at_ := p + 7 }, Ai, ci), ⟨rfl, rfl, rfl, ?_, trivial⟩, ⟨⟨f1, g9, f3, f4, f5⟩, by rw [← el]; omega, by rw [← el]; omega, hF, by rw [← el]; exact ho6, h6, kp6⟩, by dsimp only; omega⟩
      rw [← el]; rfl
    · rw [if_neg g9] at hv
      rw [if_pos (by omega)] at hF
      obtain ⟨E, rfl, hE⟩ := hv
      obtain ⟨eb, he⟩ := hE.form
      subst hF
      subst he
      (conv => whnf)
      exact ⟨⟨_, rfl, hE⟩, kp5⟩
  have g4 : ¬ (y : Int) = 18 := g4
  rw [if_neg (by omega)] at hF
  dsimp only at hF
  refine (iTake_ok w4 h4 f1 (by dsimp only; omega) (n := 0) (by omega)).mono ?_
  rintro v w5 ⟨hv, k5⟩
  dsimp only at hv
  have kp5 := kp4.trans k5
  by_cases g9 : p + 0 ≤ 8 * sk.l.length
  · rw [if_pos g9] at hv
    rw [if_neg (by omega)] at hF
    obtain ⟨rfl, h5⟩ := hv
    have h5 : InfV w5 base x rb Ar cr A c { sk with at_ := p + 0 } := h5
    have ho5 := ho4.keep k5 (fun a ha => hrb ha)
    have hnb := numL_small sk.l p 0 (by omega)
    obtain ⟨N, hN⟩ : ∃ N, N = 1 + numL sk.l p 0 := ⟨_, rfl⟩
    have hN1 : 0 < N := by omega
    rw [← hN] at hF
    (conv => whnf)
    refine VRes.to (v' := .int .i64 ((N : Nat) : Int)) (by rw [wrap_i64 (by omega)]; exact congrArg _ (by omega)) ?_
    (conv => whnf)
    refine VRes.i64 (by omega) ?_; (conv => whnf)
    refine VCmp.mk (fun ga => ?_) (fun ga => ?_) <;> (conv => whnf)
    · rw [if_pos (by omega)] at hF
      subst hF
      refine (bad_ok w5 10 (by omega)).mono ?_
      rintro v w6 ⟨hE, k6⟩
      (conv => whnf)
      exact ⟨⟨_, rfl, hE⟩, kp5.trans (noR k6)⟩
    rw [if_neg (by omega)] at hF
    refine VLoop.by_ tt_ok (S := Nat × Option Addr × Nat) (fun | (i, Ai, ci) => [(0, .pointer (some ⟨x, 0, none⟩)), (1, .pointer (some ⟨t, 0, none⟩)), (2, .int .i64 want), (8, .slice Ai (r.length + i) ci), (11, .int .i64 (y : Nat)), (70, .int .i64 N), (71, .int .i64 i)])
      (fun | (i, Ai, ci) => fun w' => i ≤ N ∧ Own w' w.heap.size TId 1 Ai (r.length + i) ci ((r ++ List.replicate i (y)).map nv) ∧ InfV w' base x rb Ar cr A c { sk with at_ := p + 0 } ∧ Keep (fun k => k = rb) w w') (fun | (i, _, _) => N - i)
      (0, Al, cl) ⟨rfl, rfl, rfl, rfl, rfl, rfl, rfl, trivial⟩ ⟨by omega, by rw [List.replicate_zero, List.append_nil]; exact ho5, h5, kp5⟩ ?_
    rintro ⟨i, Ai, ci⟩ w6 ⟨hi, ho6, h6, kp6⟩
    (conv => whnf)
    refine VCmp.mk (fun gb => ?_) (fun gb => ?_) <;> (conv => whnf)
    · refine VFill.by_ rfl ?_
      (conv => whnf)
      refine ⟨fun w7 hb7 k7 => ?_⟩
      have kp7 := kp6.trans (noR k7)
      have ho7 := ho6.keepNo k7
      have h7 := h6.keepNo k7
      have hs7 : Sl w7 1 (some ⟨w6.heap.size, 0, none⟩) 1 (([y] : List Nat).map nv) := Sl.ofBlk (n := 1) (size := 1) hb7 rfl
      (conv => whnf)
      refine VApp.own tt_ok (it := ty107) (ei := ty3) rfl rfl rfl (size := 1) rfl rfl (by omega) ho7 hs7 (nv_one [y]) (by show (r.length + i + 1) * 8 ≤ _; omega) (by omega) kp7.size ?_
      intro A8 c8 w8 ho8 k8 _
      have h8 := h7.keepTy (t := TId) (fun j ⟨a, ha, e⟩ => e ▸ ho7.ty ha) (by decide) (by decide) (by decide) k8
      have kp8 := keep_new kp7 k8 (fun j ⟨a, ha, e⟩ => e ▸ (ho7.base_ ha).1)
      (conv => whnf)
      refine VRes.i64 (by omega) ?_; (conv => whnf)
      exact ⟨(i + 1, A8, c8), ⟨rfl, rfl, rfl, rfl, rfl, rfl, rfl, trivial⟩, ⟨by omega, by rw [List.replicate_succ', ← List.append_assoc, List.map_append]; exact ho8, h8, kp8⟩, by dsimp only; omega⟩
    obtain rfl : i = N := by omega
    have el : r.length + i = (r ++ List.replicate i (y)).length := by rw [List.length_append, List.length_replicate]
    refine ⟨(g, r ++ List.replicate i (y), { sk with at_ := p + 0 }, Ai, ci), ⟨rfl, rfl, rfl, ?_, trivial⟩, ⟨⟨f1, g9, f3, f4, f5⟩, by rw [← el]; omega, by rw [← el]; omega, hF, by rw [← el]; exact ho6, h6, kp6⟩, by dsimp only; omega⟩
    rw [← el]; rfl
  · rw [if_neg g9] at hv
    rw [if_pos (by omega)] at hF
    obtain ⟨E, rfl, hE⟩ := hv
    obtain ⟨eb, he⟩ := hE.form
    subst hF
    subst he
    (conv => whnf)
    exact ⟨⟨_, rfl, hE⟩, kp5⟩
end Go.Proofs.YtgmopcbfgcagaaaDoor
