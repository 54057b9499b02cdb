/-
  DES, the program's: the rounds' keys. 
-/
import Derived.Test.YtoeijgbjgbgelaaDoorD5
namespace Go.Proofs.YtoeijgbjgbgelaaDoor
open Go V

def shiftP (r : Nat) : Nat := if r = 1 ∨ r = 2 ∨ r = 9 ∨ r = 16 then 1 else 2
def cdP (l : List UInt8) : Nat → List UInt8 × List UInt8
  | 0 => (putP (bitsP l) (withoutO leftL) 28, putP (bitsP l) (withoutO rightL) 28)
  | r + 1 => (turnP (cdP l r).1 (shiftP (r + 1)), turnP (cdP l r).2 (shiftP (r + 1)))
def keyP (l : List UInt8) (r : Nat) : List UInt8 := putP ((cdP l r).1 ++ (cdP l r).2) (fun i => chosenL.getD i 0) 48
def keysP (l : List UInt8) (n : Nat) : List (List UInt8) := (List.range n).map fun i => keyP l (i + 1)
theorem left_range : ∀ i, i < 28 → (1 ≤ leftL.getD i 0 ∧ leftL.getD i 0 ≤ 1000) ∧ 1 ≤ withoutO leftL i ∧ withoutO leftL i ≤ 56 := by
  have : ∀ i : Fin 28, (1 ≤ leftL.getD i.val 0 ∧ leftL.getD i.val 0 ≤ 1000) ∧ 1 ≤ withoutO leftL i.val ∧ withoutO leftL i.val ≤ 56 := by decide +kernel
  exact fun i h => this ⟨i, h⟩
theorem right_range : ∀ i, i < 28 → (1 ≤ rightL.getD i 0 ∧ rightL.getD i 0 ≤ 1000) ∧ 1 ≤ withoutO rightL i ∧ withoutO rightL i ≤ 56 := by
  have : ∀ i : Fin 28, (1 ≤ rightL.getD i.val 0 ∧ rightL.getD i.val 0 ≤ 1000) ∧ 1 ≤ withoutO rightL i.val ∧ withoutO rightL i.val ≤ 56 := by decide +kernel
  exact fun i h => this ⟨i, h⟩
theorem chosen_range : ∀ i, i < 48 → 1 ≤ chosenL.getD i 0 ∧ chosenL.getD i 0 ≤ 56 := by
  have : ∀ i : Fin 48, 1 ≤ chosenL.getD i.val 0 ∧ chosenL.getD i.val 0 ≤ 56 := by decide +kernel
  exact fun i h => this ⟨i, h⟩
abbrev ElsT (w : World) (vals : List Value) (fs : List (List UInt8)) : Prop := Els w (fun k => Ty w k T8) vals fs

theorem ElsT.keep {S : Nat → Prop} {w w' : World} {vals : List Value} {fs : List (List UInt8)} (h : ElsT w vals fs) (k : Keep S w w') (hs : ∀ i, Ty w i T8 → ¬ S i) : ElsT w' vals fs :=
  ⟨h.1, fun i f hf => by
    obtain ⟨v, h1, A, c, h2, h3, h4, h5⟩ := h.2 i f hf
    exact ⟨v, h1, A, c, h2, h3, h4.keepP k (fun a ha h0 => hs _ (h5 a ha h0)), fun a ha h0 => (h5 a ha h0).keep k (hs _ (h5 a ha h0))⟩⟩
theorem ElsT.keepNo {w w' : World} {vals : List Value} {fs : List (List UInt8)} (h : ElsT w vals fs) (k : Keep No w w') : ElsT w' vals fs := h.keep k (fun _ _ => id)

theorem keys_ok (w : World) {A : Option Addr} {c : Nat} {l : List UInt8} (hs : Sl w 1 A 7 (l.map vb)) :
    VC Tryd.prog 36 [.slice A 7 c] w (fun v w' => (∃ A' c' vals, v = .slice A' 16 c' ∧ Own w' w.heap.size TB8d 1 A' 16 c' vals ∧ Els w' (fun _ => True) vals (keysP l 16)) ∧ Keep No w w') := by
  refine VC.of tt_ok Tryd.func36 rfl (by decide +kernel) (Nat.le_of_ble_eq_true rfl) ?_; (conv => whnf)
  refine (bitsOf_ok w hs (by omega)).mono ?_
  rintro v w1 ⟨⟨A1, c1, rfl, ho1⟩, kp⟩
  have hb := Sl.ofOwn ho1
  (conv => whnf)
  refine (left_ok w1).mono ?_
  rintro v w2 ⟨⟨AL, cL, rfl, hL⟩, hk2⟩
  have kp := kp.keepNo hk2; have hb := hb.keepNo hk2
  (conv => whnf)
  refine (without_ok w2 hL (fun i hi => (left_range i hi).1)).mono ?_
  rintro v w3 ⟨⟨cs, rfl, hord⟩, hk3⟩
  have kp := kp.keepNo hk3; have hb := hb.keepNo hk3
  (conv => whnf)
  refine (put_ok w3 hb hord (by omega) (by omega) (fun i hi => (left_range i hi).2)).mono ?_
  rintro v w4 ⟨⟨Ac, cc, rfl, hoc⟩, hk4⟩
  have hoc := hoc.mono kp.size
  have kp := kp.keepNo hk4; have hb := hb.keepNo hk4
  (conv => whnf)
  refine (right_ok w4).mono ?_
  rintro v w5 ⟨⟨AR, cR, rfl, hR⟩, hk5⟩
  have kp := kp.keepNo hk5; have hb := hb.keepNo hk5; have hoc := hoc.keepNo hk5
  (conv => whnf)
  refine (without_ok w5 hR (fun i hi => (right_range i hi).1)).mono ?_
  rintro v w6 ⟨⟨cs', rfl, hord⟩, hk6⟩
  have kp := kp.keepNo hk6; have hb := hb.keepNo hk6; have hoc := hoc.keepNo hk6
  (conv => whnf)
  refine (put_ok w6 hb hord (by omega) (by omega) (fun i hi => (right_range i hi).2)).mono ?_
  rintro v w7 ⟨⟨Ad, cd, rfl, hod⟩, hk7⟩
  have hod := hod.mono kp.size
  have kp := kp.keepNo hk7; have hoc := hoc.keepNo hk7
  (conv => whnf)
  refine VLoop.by_ tt_ok (S := Nat × (Option Addr × Nat) × (Option Addr × Nat) × Option Addr × Nat × List Value) (fun | (k, (Ac, cc), (Ad, cd), Ao, co, _) => [(4, .slice Ac 28 cc), (5, .slice Ad 28 cd), (6, .slice Ao k co), (7, .int .i64 ((k : Int) + 1))])
    (fun | (k, (Ac, cc), (Ad, cd), Ao, co, vals) => fun w' => k ≤ 16 ∧ Own w' w.heap.size T8 1 Ac 28 cc ((cdP l k).1.map vb) ∧ Own w' w.heap.size T8 1 Ad 28 cd ((cdP l k).2.map vb) ∧ Own w' w.heap.size TB8d 1 Ao k co vals ∧ ElsT w' vals (keysP l k) ∧ Keep No w w') (fun | (k, _) => 16 - k)
    (0, (Ac, cc), (Ad, cd), none, 0, []) ⟨rfl, rfl, rfl, rfl, trivial⟩ ⟨by omega, hoc, hod, Own.nil _ _ _ _, Els.nil _ _, kp⟩ ?_
  rintro ⟨k, ⟨Ac, cc⟩, ⟨Ad, cd⟩, Ao, co, vals⟩ w' ⟨hk, hoc, hod, hout, hels, kp⟩
  (conv => whnf)
  refine VCmp.mk (fun h => ?_) (fun h => ?_) <;> (conv => whnf)
  rotate_left 1
  · obtain rfl : k = 16 := by omega
    exact ⟨⟨Ao, co, vals, rfl, hout, hels.mono (fun _ _ => trivial)⟩, kp⟩
  refine VCmp.mk (fun h1 => ?_) (fun h1 => ?_) <;> (conv => whnf)
  · skip
    have hsh : shiftP (k + 1) = 1 := by unfold shiftP; (first | rw [if_pos (by omega)] | rw [if_neg (by omega)])
    refine (turned_ok w' (k := 1) (Sl.ofOwn hoc) hoc.le (by omega) (by omega)).mono ?_
    rintro v w1 ⟨⟨A1, c1, rfl, ho1⟩, hk1⟩
    have ho1 := ho1.mono kp.size
    have kp := kp.keepNo hk1; have hod := hod.keepNo hk1; have hout := hout.keepNo hk1; have hels := hels.keepNo hk1
    (conv => whnf)
    refine (turned_ok w1 (k := 1) (Sl.ofOwn hod) hod.le (by omega) (by omega)).mono ?_
    rintro v w2 ⟨⟨A2, c2, rfl, ho2⟩, hk2⟩
    have ho2 := ho2.mono kp.size
    have kp := kp.keepNo hk2; have ho1 := ho1.keepNo hk2; have hout := hout.keepNo hk2; have hels := hels.keepNo hk2
    (conv => whnf)
    refine appBd (w0 := w2) (xs := []) (n := 0) (Keep.refl _ _) (Own.nil _ _ _ _) (Sl.ofOwn ho1) (by omega) ?_
    intro A3 c3 w3 ho3 hk3 _
    have ho2' := ho2.keepNo hk3
    (conv => whnf)
    refine appBd (w0 := w2) (xs := [] ++ turnP (cdP l k).1 1) (n := 0 + 28) hk3 ho3 (Sl.ofOwn ho2') (by omega) ?_
    intro A4 c4 w4 ho4 hk4 _
    have kp := kp.keepNo hk4; have ho1 := ho1.keepNo hk4; have ho2 := ho2.keepNo hk4; have hout := hout.keepNo hk4; have hels := hels.keepNo hk4
    (conv => whnf)
    refine (chosen_ok w4).mono ?_
    rintro v w5 ⟨⟨cs, rfl, hord⟩, hk5⟩
    have kp := kp.keepNo hk5; have ho1 := ho1.keepNo hk5; have ho2 := ho2.keepNo hk5; have hout := hout.keepNo hk5; have hels := hels.keepNo hk5; have ho4 := ho4.keepNo hk5
    (conv => whnf)
    refine (put_ok w5 (Sl.ofOwn ho4) hord (by omega) (by omega) (fun i hi => by have := chosen_range i hi; omega)).mono ?_
    rintro v w6 ⟨⟨A6, c6, rfl, ho6⟩, hk6⟩
    have kp := kp.keepNo hk6; have ho1 := ho1.keepNo hk6; have ho2 := ho2.keepNo hk6; have hout := hout.keepNo hk6; have hels := hels.keepNo hk6
    (conv => whnf)
    refine VFill.by_ rfl ?_; (conv => whnf)
    refine ⟨fun w7 hb7 hk7 => ?_⟩; have hb7_lt := Blk.lt hb7; have hk7_sz := hk7.size; (conv => whnf)
    have kp := kp.keepNo hk7; have ho1 := ho1.keepNo hk7; have ho2 := ho2.keepNo hk7; have hout := hout.keepNo hk7; have hels := hels.keepNo hk7; have ho6 := ho6.keepNo hk7
    have hkey : putP ([] ++ turnP (cdP l k).1 1 ++ turnP (cdP l k).2 1) (fun i => chosenL.getD i 0) 48 = keyP l (k + 1) := by
      unfold keyP
      rw [cdP, hsh]; rfl
    have hkl : (keyP l (k + 1)).length = 48 := by unfold keyP; exact putP_len _ _ _
    rw [hkey] at ho6
    have hels2 : ElsT w7 (vals ++ [.slice A6 48 c6]) (keysP l (k + 1)) := by
      have e : keysP l (k + 1) = keysP l k ++ [keyP l (k + 1)] := by unfold keysP; rw [List.range_succ, List.map_append]; rfl
      rw [e]
      exact Els.snoc hels ⟨A6, c6, by rw [hkl], by rw [hkl]; exact ho6.le, by rw [hkl]; exact Sl.ofOwn ho6, fun a ha _ => ho6.ty ha⟩
    refine VApp.own tt_ok (it := ty80) (ei := ty23) rfl rfl rfl (size := 1) rfl rfl (by omega) hout (ys := [.slice A6 48 c6]) (Sl.ofBlk (n := 1) (size := 1) hb7 rfl) (fun u hu => by obtain rfl := List.mem_singleton.1 hu; rfl) (by show (k + 1) * 24 ≤ _; omega) (by omega) kp.size ?_
    intro A8 c8 w8 ho8 hk8 _
    have kp := kp.own hout hk8
    have ho1 := ho1.keep hk8 (fun a ha ⟨a0, e0, e⟩ => ((ho1.ty ha).ne (hout.ty e0) (by decide)) e.symm)
    have ho2 := ho2.keep hk8 (fun a ha ⟨a0, e0, e⟩ => ((ho2.ty ha).ne (hout.ty e0) (by decide)) e.symm)
    have hels3 := ElsT.keep hels2 hk8 (fun i hi ⟨a0, e0, e⟩ => (hi.ne (hout.ty e0) (by decide)) e.symm)
    (conv => whnf)
    refine VRes.i64 (by omega) ?_; (conv => whnf)
    exact ⟨(k + 1, (A1, c1), (A2, c2), A8, c8, _), ⟨rfl, rfl, rfl, rfl, trivial⟩, ⟨by omega, by rw [cdP, hsh]; exact ho1, by rw [cdP, hsh]; exact ho2, ho8, hels3, kp⟩, by dsimp only; omega⟩
  refine VCmp.mk (fun h2 => ?_) (fun h2 => ?_) <;> (conv => whnf)
  · skip
    have hsh : shiftP (k + 1) = 1 := by unfold shiftP; (first | rw [if_pos (by omega)] | rw [if_neg (by omega)])
    refine (turned_ok w' (k := 1) (Sl.ofOwn hoc) hoc.le (by omega) (by omega)).mono ?_
    rintro v w1 ⟨⟨A1, c1, rfl, ho1⟩, hk1⟩
    have ho1 := ho1.mono kp.size
    have kp := kp.keepNo hk1; have hod := hod.keepNo hk1; have hout := hout.keepNo hk1; have hels := hels.keepNo hk1
    (conv => whnf)
    refine (turned_ok w1 (k := 1) (Sl.ofOwn hod) hod.le (by omega) (by omega)).mono ?_
    rintro v w2 ⟨⟨A2, c2, rfl, ho2⟩, hk2⟩
    have ho2 := ho2.mono kp.size
    have kp := kp.keepNo hk2; have ho1 := ho1.keepNo hk2; have hout := hout.keepNo hk2; have hels := hels.keepNo hk2
    (conv => whnf)
    refine appBd (w0 := w2) (xs := []) (n := 0) (Keep.refl _ _) (Own.nil _ _ _ _) (Sl.ofOwn ho1) (by omega) ?_
    intro A3 c3 w3 ho3 hk3 _
    have ho2' := ho2.keepNo hk3
    (conv => whnf)
    refine appBd (w0 := w2) (xs := [] ++ turnP (cdP l k).1 1) (n := 0 + 28) hk3 ho3 (Sl.ofOwn ho2') (by omega) ?_
    intro A4 c4 w4 ho4 hk4 _
    have kp := kp.keepNo hk4; have ho1 := ho1.keepNo hk4; have ho2 := ho2.keepNo hk4; have hout := hout.keepNo hk4; have hels := hels.keepNo hk4
    (conv => whnf)
    refine (chosen_ok w4).mono ?_
    rintro v w5 ⟨⟨cs, rfl, hord⟩, hk5⟩
    have kp := kp.keepNo hk5; have ho1 := ho1.keepNo hk5; have ho2 := ho2.keepNo hk5; have hout := hout.keepNo hk5; have hels := hels.keepNo hk5; have ho4 := ho4.keepNo hk5
    (conv => whnf)
    refine (put_ok w5 (Sl.ofOwn ho4) hord (by omega) (by omega) (fun i hi => by have := chosen_range i hi; omega)).mono ?_
    rintro v w6 ⟨⟨A6, c6, rfl, ho6⟩, hk6⟩
    have kp := kp.keepNo hk6; have ho1 := ho1.keepNo hk6; have ho2 := ho2.keepNo hk6; have hout := hout.keepNo hk6; have hels := hels.keepNo hk6
    (conv => whnf)
    refine VFill.by_ rfl ?_; (conv => whnf)
    refine ⟨fun w7 hb7 hk7 => ?_⟩; have hb7_lt := Blk.lt hb7; have hk7_sz := hk7.size; (conv => whnf)
    have kp := kp.keepNo hk7; have ho1 := ho1.keepNo hk7; have ho2 := ho2.keepNo hk7; have hout := hout.keepNo hk7; have hels := hels.keepNo hk7; have ho6 := ho6.keepNo hk7
    have hkey : putP ([] ++ turnP (cdP l k).1 1 ++ turnP (cdP l k).2 1) (fun i => chosenL.getD i 0) 48 = keyP l (k + 1) := by
      unfold keyP
      rw [cdP, hsh]; rfl
    have hkl : (keyP l (k + 1)).length = 48 := by unfold keyP; exact putP_len _ _ _
    rw [hkey] at ho6
    have hels2 : ElsT w7 (vals ++ [.slice A6 48 c6]) (keysP l (k + 1)) := by
      have e : keysP l (k + 1) = keysP l k ++ [keyP l (k + 1)] := by unfold keysP; rw [List.range_succ, List.map_append]; rfl
      rw [e]
      exact Els.snoc hels ⟨A6, c6, by rw [hkl], by rw [hkl]; exact ho6.le, by rw [hkl]; exact Sl.ofOwn ho6, fun a ha _ => ho6.ty ha⟩
    refine VApp.own tt_ok (it := ty80) (ei := ty23) rfl rfl rfl (size := 1) rfl rfl (by omega) hout (ys := [.slice A6 48 c6]) (Sl.ofBlk (n := 1) (size := 1) hb7 rfl) (fun u hu => by obtain rfl := List.mem_singleton.1 hu; rfl) (by show (k + 1) * 24 ≤ _; omega) (by omega) kp.size ?_
    intro A8 c8 w8 ho8 hk8 _
    have kp := kp.own hout hk8
    have ho1 := ho1.keep hk8 (fun a ha ⟨a0, e0, e⟩ => ((ho1.ty ha).ne (hout.ty e0) (by decide)) e.symm)
    have ho2 := ho2.keep hk8 (fun a ha ⟨a0, e0, e⟩ => ((ho2.ty ha).ne (hout.ty e0) (by decide)) e.symm)
    have hels3 := ElsT.keep hels2 hk8 (fun i hi ⟨a0, e0, e⟩ => (hi.ne (hout.ty e0) (by decide)) e.symm)
    (conv => whnf)
    refine VRes.i64 (by omega) ?_; (conv => whnf)
    exact ⟨(k + 1, (A1, c1), (A2, c2), A8, c8, _), ⟨rfl, rfl, rfl, rfl, trivial⟩, ⟨by omega, by rw [cdP, hsh]; exact ho1, by rw [cdP, hsh]; exact ho2, ho8, hels3, kp⟩, by dsimp only; omega⟩
  refine VCmp.mk (fun h3 => ?_) (fun h3 => ?_) <;> (conv => whnf)
  · skip
    have hsh : shiftP (k + 1) = 1 := by unfold shiftP; (first | rw [if_pos (by omega)] | rw [if_neg (by omega)])
    refine (turned_ok w' (k := 1) (Sl.ofOwn hoc) hoc.le (by omega) (by omega)).mono ?_
    rintro v w1 ⟨⟨A1, c1, rfl, ho1⟩, hk1⟩
    have ho1 := ho1.mono kp.size
    have kp := kp.keepNo hk1; have hod := hod.keepNo hk1; have hout := hout.keepNo hk1; have hels := hels.keepNo hk1
    (conv => whnf)
    refine (turned_ok w1 (k := 1) (Sl.ofOwn hod) hod.le (by omega) (by omega)).mono ?_
    rintro v w2 ⟨⟨A2, c2, rfl, ho2⟩, hk2⟩
    have ho2 := ho2.mono kp.size
    have kp := kp.keepNo hk2; have ho1 := ho1.keepNo hk2; have hout := hout.keepNo hk2; have hels := hels.keepNo hk2
    (conv => whnf)
    refine appBd (w0 := w2) (xs := []) (n := 0) (Keep.refl _ _) (Own.nil _ _ _ _) (Sl.ofOwn ho1) (by omega) ?_
    intro A3 c3 w3 ho3 hk3 _
    have ho2' := ho2.keepNo hk3
    (conv => whnf)
    refine appBd (w0 := w2) (xs := [] ++ turnP (cdP l k).1 1) (n := 0 + 28) hk3 ho3 (Sl.ofOwn ho2') (by omega) ?_
    intro A4 c4 w4 ho4 hk4 _
    have kp := kp.keepNo hk4; have ho1 := ho1.keepNo hk4; have ho2 := ho2.keepNo hk4; have hout := hout.keepNo hk4; have hels := hels.keepNo hk4
    (conv => whnf)
    refine (chosen_ok w4).mono ?_
    rintro v w5 ⟨⟨cs, rfl, hord⟩, hk5⟩
    have kp := kp.keepNo hk5; have ho1 := ho1.keepNo hk5; have ho2 := ho2.keepNo hk5; have hout := hout.keepNo hk5; have hels := hels.keepNo hk5; have ho4 := ho4.keepNo hk5
    (conv => whnf)
    refine (put_ok w5 (Sl.ofOwn ho4) hord (by omega) (by omega) (fun i hi => by have := chosen_range i hi; omega)).mono ?_
    rintro v w6 ⟨⟨A6, c6, rfl, ho6⟩, hk6⟩
    have kp := kp.keepNo hk6; have ho1 := ho1.keepNo hk6; have ho2 := ho2.keepNo hk6; have hout := hout.keepNo hk6; have hels := hels.keepNo hk6
    (conv => whnf)
    refine VFill.by_ rfl ?_; (conv => whnf)
    refine ⟨fun w7 hb7 hk7 => ?_⟩; have hb7_lt := Blk.lt hb7; have hk7_sz := hk7.size; (conv => whnf)
    have kp := kp.keepNo hk7; have ho1 := ho1.keepNo hk7; have ho2 := ho2.keepNo hk7; have hout := hout.keepNo hk7; have hels := hels.keepNo hk7; have ho6 := ho6.keepNo hk7
    have hkey : putP ([] ++ turnP (cdP l k).1 1 ++ turnP (cdP l k).2 1) (fun i => chosenL.getD i 0) 48 = keyP l (k + 1) := by
      unfold keyP
      rw [cdP, hsh]; rfl
    have hkl : (keyP l (k + 1)).length = 48 := by unfold keyP; exact putP_len _ _ _
    rw [hkey] at ho6
    have hels2 : ElsT w7 (vals ++ [.slice A6 48 c6]) (keysP l (k + 1)) := by
      have e : keysP l (k + 1) = keysP l k ++ [keyP l (k + 1)] := by unfold keysP; rw [List.range_succ, List.map_append]; rfl
      rw [e]
      exact Els.snoc hels ⟨A6, c6, by rw [hkl], by rw [hkl]; exact ho6.le, by rw [hkl]; exact Sl.ofOwn ho6, fun a ha _ => ho6.ty ha⟩
    refine VApp.own tt_ok (it := ty80) (ei := ty23) rfl rfl rfl (size := 1) rfl rfl (by omega) hout (ys := [.slice A6 48 c6]) (Sl.ofBlk (n := 1) (size := 1) hb7 rfl) (fun u hu => by obtain rfl := List.mem_singleton.1 hu; rfl) (by show (k + 1) * 24 ≤ _; omega) (by omega) kp.size ?_
    intro A8 c8 w8 ho8 hk8 _
    have kp := kp.own hout hk8
    have ho1 := ho1.keep hk8 (fun a ha ⟨a0, e0, e⟩ => ((ho1.ty ha).ne (hout.ty e0) (by decide)) e.symm)
    have ho2 := ho2.keep hk8 (fun a ha ⟨a0, e0, e⟩ => ((ho2.ty ha).ne (hout.ty e0) (by decide)) e.symm)
    have hels3 := ElsT.keep hels2 hk8 (fun i hi ⟨a0, e0, e⟩ => (hi.ne (hout.ty e0) (by decide)) e.symm)
    (conv => whnf)
    refine VRes.i64 (by omega) ?_; (conv => whnf)
    exact ⟨(k + 1, (A1, c1), (A2, c2), A8, c8, _), ⟨rfl, rfl, rfl, rfl, trivial⟩, ⟨by omega, by rw [cdP, hsh]; exact ho1, by rw [cdP, hsh]; exact ho2, ho8, hels3, kp⟩, by dsimp only; omega⟩
  refine VCmp.mk (fun h4 => ?_) (fun h4 => ?_) <;> (conv => whnf)
  · skip
    have hsh : shiftP (k + 1) = 1 := by unfold shiftP; (first | rw [if_pos (by omega)] | rw [if_neg (by omega)])
    refine (turned_ok w' (k := 1) (Sl.ofOwn hoc) hoc.le (by omega) (by omega)).mono ?_
    rintro v w1 ⟨⟨A1, c1, rfl, ho1⟩, hk1⟩
    have ho1 := ho1.mono kp.size
    have kp := kp.keepNo hk1; have hod := hod.keepNo hk1; have hout := hout.keepNo hk1; have hels := hels.keepNo hk1
    (conv => whnf)
    refine (turned_ok w1 (k := 1) (Sl.ofOwn hod) hod.le (by omega) (by omega)).mono ?_
    rintro v w2 ⟨⟨A2, c2, rfl, ho2⟩, hk2⟩
    have ho2 := ho2.mono kp.size
    have kp := kp.keepNo hk2; have ho1 := ho1.keepNo hk2; have hout := hout.keepNo hk2; have hels := hels.keepNo hk2
    (conv => whnf)
    refine appBd (w0 := w2) (xs := []) (n := 0) (Keep.refl _ _) (Own.nil _ _ _ _) (Sl.ofOwn ho1) (by omega) ?_
    intro A3 c3 w3 ho3 hk3 _
    have ho2' := ho2.keepNo hk3
    (conv => whnf)
    refine appBd (w0 := w2) (xs := [] ++ turnP (cdP l k).1 1) (n := 0 + 28) hk3 ho3 (Sl.ofOwn ho2') (by omega) ?_
    intro A4 c4 w4 ho4 hk4 _
    have kp := kp.keepNo hk4; have ho1 := ho1.keepNo hk4; have ho2 := ho2.keepNo hk4; have hout := hout.keepNo hk4; have hels := hels.keepNo hk4
    (conv => whnf)
    refine (chosen_ok w4).mono ?_
    rintro v w5 ⟨⟨cs, rfl, hord⟩, hk5⟩
    have kp := kp.keepNo hk5; have ho1 := ho1.keepNo hk5; have ho2 := ho2.keepNo hk5; have hout := hout.keepNo hk5; have hels := hels.keepNo hk5; have ho4 := ho4.keepNo hk5
    (conv => whnf)
    refine (put_ok w5 (Sl.ofOwn ho4) hord (by omega) (by omega) (fun i hi => by have := chosen_range i hi; omega)).mono ?_
    rintro v w6 ⟨⟨A6, c6, rfl, ho6⟩, hk6⟩
    have kp := kp.keepNo hk6; have ho1 := ho1.keepNo hk6; have ho2 := ho2.keepNo hk6; have hout := hout.keepNo hk6; have hels := hels.keepNo hk6
    (conv => whnf)
    refine VFill.by_ rfl ?_; (conv => whnf)
    refine ⟨fun w7 hb7 hk7 => ?_⟩; have hb7_lt := Blk.lt hb7; have hk7_sz := hk7.size; (conv => whnf)
    have kp := kp.keepNo hk7; have ho1 := ho1.keepNo hk7; have ho2 := ho2.keepNo hk7; have hout := hout.keepNo hk7; have hels := hels.keepNo hk7; have ho6 := ho6.keepNo hk7
    have hkey : putP ([] ++ turnP (cdP l k).1 1 ++ turnP (cdP l k).2 1) (fun i => chosenL.getD i 0) 48 = keyP l (k + 1) := by
      unfold keyP
      rw [cdP, hsh]; rfl
    have hkl : (keyP l (k + 1)).length = 48 := by unfold keyP; exact putP_len _ _ _
    rw [hkey] at ho6
    have hels2 : ElsT w7 (vals ++ [.slice A6 48 c6]) (keysP l (k + 1)) := by
      have e : keysP l (k + 1) = keysP l k ++ [keyP l (k + 1)] := by unfold keysP; rw [List.range_succ, List.map_append]; rfl
      rw [e]
      exact Els.snoc hels ⟨A6, c6, by rw [hkl], by rw [hkl]; exact ho6.le, by rw [hkl]; exact Sl.ofOwn ho6, fun a ha _ => ho6.ty ha⟩
    refine VApp.own tt_ok (it := ty80) (ei := ty23) rfl rfl rfl (size := 1) rfl rfl (by omega) hout (ys := [.slice A6 48 c6]) (Sl.ofBlk (n := 1) (size := 1) hb7 rfl) (fun u hu => by obtain rfl := List.mem_singleton.1 hu; rfl) (by show (k + 1) * 24 ≤ _; omega) (by omega) kp.size ?_
    intro A8 c8 w8 ho8 hk8 _
    have kp := kp.own hout hk8
    have ho1 := ho1.keep hk8 (fun a ha ⟨a0, e0, e⟩ => ((ho1.ty ha).ne (hout.ty e0) (by decide)) e.symm)
    have ho2 := ho2.keep hk8 (fun a ha ⟨a0, e0, e⟩ => ((ho2.ty ha).ne (hout.ty e0) (by decide)) e.symm)
    have hels3 := ElsT.keep hels2 hk8 (fun i hi ⟨a0, e0, e⟩ => (hi.ne (hout.ty e0) (by decide)) e.symm)
    (conv => whnf)
    refine VRes.i64 (by omega) ?_; (conv => whnf)
    exact ⟨(k + 1, (A1, c1), (A2, c2), A8, c8, _), ⟨rfl, rfl, rfl, rfl, trivial⟩, ⟨by omega, by rw [cdP, hsh]; exact ho1, by rw [cdP, hsh]; exact ho2, ho8, hels3, kp⟩, by dsimp only; omega⟩
  · skip
    have hsh : shiftP (k + 1) = 2 := by unfold shiftP; (first | rw [if_pos (by omega)] | rw [if_neg (by omega)])
    refine (turned_ok w' (k := 2) (Sl.ofOwn hoc) hoc.le (by omega) (by omega)).mono ?_
    rintro v w1 ⟨⟨A1, c1, rfl, ho1⟩, hk1⟩
    have ho1 := ho1.mono kp.size
    have kp := kp.keepNo hk1; have hod := hod.keepNo hk1; have hout := hout.keepNo hk1; have hels := hels.keepNo hk1
    (conv => whnf)
    refine (turned_ok w1 (k := 2) (Sl.ofOwn hod) hod.le (by omega) (by omega)).mono ?_
    rintro v w2 ⟨⟨A2, c2, rfl, ho2⟩, hk2⟩
    have ho2 := ho2.mono kp.size
    have kp := kp.keepNo hk2; have ho1 := ho1.keepNo hk2; have hout := hout.keepNo hk2; have hels := hels.keepNo hk2
    (conv => whnf)
    refine appBd (w0 := w2) (xs := []) (n := 0) (Keep.refl _ _) (Own.nil _ _ _ _) (Sl.ofOwn ho1) (by omega) ?_
    intro A3 c3 w3 ho3 hk3 _
    have ho2' := ho2.keepNo hk3
    (conv => whnf)
    refine appBd (w0 := w2) (xs := [] ++ turnP (cdP l k).1 2) (n := 0 + 28) hk3 ho3 (Sl.ofOwn ho2') (by omega) ?_
    intro A4 c4 w4 ho4 hk4 _
    have kp := kp.keepNo hk4; have ho1 := ho1.keepNo hk4; have ho2 := ho2.keepNo hk4; have hout := hout.keepNo hk4; have hels := hels.keepNo hk4
    (conv => whnf)
    refine (chosen_ok w4).mono ?_
    rintro v w5 ⟨⟨cs, rfl, hord⟩, hk5⟩
    have kp := kp.keepNo hk5; have ho1 := ho1.keepNo hk5; have ho2 := ho2.keepNo hk5; have hout := hout.keepNo hk5; have hels := hels.keepNo hk5; have ho4 := ho4.keepNo hk5
    (conv => whnf)
    refine (put_ok w5 (Sl.ofOwn ho4) hord (by omega) (by omega) (fun i hi => by have := chosen_range i hi; omega)).mono ?_
    rintro v w6 ⟨⟨A6, c6, rfl, ho6⟩, hk6⟩
    have kp := kp.keepNo hk6; have ho1 := ho1.keepNo hk6; have ho2 := ho2.keepNo hk6; have hout := hout.keepNo hk6; have hels := hels.keepNo hk6
    (conv => whnf)
    refine VFill.by_ rfl ?_; (conv => whnf)
    refine ⟨fun w7 hb7 hk7 => ?_⟩; have hb7_lt := Blk.lt hb7; have hk7_sz := hk7.size; (conv => whnf)
    have kp := kp.keepNo hk7; have ho1 := ho1.keepNo hk7; have ho2 := ho2.keepNo hk7; have hout := hout.keepNo hk7; have hels := hels.keepNo hk7; have ho6 := ho6.keepNo hk7
    have hkey : putP ([] ++ turnP (cdP l k).1 2 ++ turnP (cdP l k).2 2) (fun i => chosenL.getD i 0) 48 = keyP l (k + 1) := by
      unfold keyP
      rw [cdP, hsh]; rfl
    have hkl : (keyP l (k + 1)).length = 48 := by unfold keyP; exact putP_len _ _ _
    rw [hkey] at ho6
    have hels2 : ElsT w7 (vals ++ [.slice A6 48 c6]) (keysP l (k + 1)) := by
      have e : keysP l (k + 1) = keysP l k ++ [keyP l (k + 1)] := by unfold keysP; rw [List.range_succ, List.map_append]; rfl
      rw [e]
      exact Els.snoc hels ⟨A6, c6, by rw [hkl], by rw [hkl]; exact ho6.le, by rw [hkl]; exact Sl.ofOwn ho6, fun a ha _ => ho6.ty ha⟩
    refine VApp.own tt_ok (it := ty80) (ei := ty23) rfl rfl rfl (size := 1) rfl rfl (by omega) hout (ys := [.slice A6 48 c6]) (Sl.ofBlk (n := 1) (size := 1) hb7 rfl) (fun u hu => by obtain rfl := List.mem_singleton.1 hu; rfl) (by show (k + 1) * 24 ≤ _; omega) (by omega) kp.size ?_
    intro A8 c8 w8 ho8 hk8 _
    have kp := kp.own hout hk8
    have ho1 := ho1.keep hk8 (fun a ha ⟨a0, e0, e⟩ => ((ho1.ty ha).ne (hout.ty e0) (by decide)) e.symm)
    have ho2 := ho2.keep hk8 (fun a ha ⟨a0, e0, e⟩ => ((ho2.ty ha).ne (hout.ty e0) (by decide)) e.symm)
    have hels3 := ElsT.keep hels2 hk8 (fun i hi ⟨a0, e0, e⟩ => (hi.ne (hout.ty e0) (by decide)) e.symm)
    (conv => whnf)
    refine VRes.i64 (by omega) ?_; (conv => whnf)
    exact ⟨(k + 1, (A1, c1), (A2, c2), A8, c8, _), ⟨rfl, rfl, rfl, rfl, trivial⟩, ⟨by omega, by rw [cdP, hsh]; exact ho1, by rw [cdP, hsh]; exact ho2, ho8, hels3, kp⟩, by dsimp only; omega⟩
end Go.Proofs.YtoeijgbjgbgelaaDoor
