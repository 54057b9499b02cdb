/-
  Package huff: a table as it lies in memory; the next symbol.
-/
import Derived.Test.YtgmopcbfgcagaaaDoorI2
namespace Go.Proofs.YtgmopcbfgcagaaaDoor
open Go V

abbrev TTb : TypeId := 135
abbrev TId : TypeId := 3
def nv (x : Nat) : Value := .int .i64 (x : Int)
def tbC (L C O : Value) (cnt : List Nat) : List Value := .bool true :: L :: C :: (cnt.map nv ++ [O])
theorem tbC_cnt {L C O : Value} {cnt : List Nat} {i : Nat} (h : i < cnt.length) : (tbC L C O cnt)[3 + i]? = some (nv (cnt.getD i 0)) := by
  unfold tbC
  rw [show 3 + i = i + 1 + 1 + 1 from by omega, List.getElem?_cons_succ, List.getElem?_cons_succ, List.getElem?_cons_succ, List.getElem?_append_left (by rw [List.length_map]; exact h), List.getElem?_map, List.getElem?_eq_getElem h, List.getD_eq_getElem?_getD, List.getElem?_eq_getElem h]
  rfl
theorem tbC_ord {L C O : Value} {cnt : List Nat} (h : cnt.length = 16) : (tbC L C O cnt)[19]? = some O := by
  unfold tbC
  rw [List.getElem?_cons_succ, List.getElem?_cons_succ, List.getElem?_cons_succ, List.getElem?_append_right (by rw [List.length_map]; omega), List.length_map, h]
  rfl
theorem tbC_len {L C O : Value} {cnt : List Nat} : (tbC L C O cnt).length = cnt.length + 4 := by
  unfold tbC; simp
theorem tbC_setcnt {L C O : Value} {cnt : List Nat} {i v : Nat} (h : i < cnt.length) : (tbC L C O cnt).set (3 + i) (nv v) = tbC L C O (cnt.set i v) := by
  unfold tbC
  rw [show 3 + i = i + 1 + 1 + 1 from by omega, List.set_cons_succ, List.set_cons_succ, List.set_cons_succ, List.set_append_left _ _ (by rw [List.length_map]; exact h), List.map_set]
theorem tbC_setord {L C O O' : Value} {cnt : List Nat} (h : cnt.length = 16) : (tbC L C O cnt).set 19 O' = tbC L C O' cnt := by
  unfold tbC
  rw [List.set_cons_succ, List.set_cons_succ, List.set_cons_succ, List.set_append_right _ _ (by rw [List.length_map]; omega), List.length_map, h]
  rfl

/-- Block t is a table with so many codes of each length, and with these symbols by their codes. -/
def TblV (w : World) (t : Nat) (cnt ord : List Nat) : Prop :=
  cnt.length = 16 ∧ ∃ Lv Cv O co, Blk w t TTb (tbC Lv Cv (.slice O ord.length co) cnt) ∧ Sl w 1 O ord.length (ord.map nv) ∧ ∀ a, O = some a → Ty w a.block TId
theorem TblV.keep {S : Nat → Prop} {w w' : World} {t : Nat} {cnt ord : List Nat} (h : TblV w t cnt ord) (k : Keep S w w') (hs : ∀ i, (Ty w i TTb ∨ Ty w i TId) → ¬ S i) : TblV w' t cnt ord := by
  obtain ⟨h1, Lv, Cv, O, co, h2, h3, h4⟩ := h
  exact ⟨h1, Lv, Cv, O, co, h2.keep k (hs _ (.inl h2.ty)), h3.keep k (fun a ha => hs _ (.inr (h4 a ha))), fun a ha => (h4 a ha).keep k (hs _ (.inr (h4 a ha)))⟩
theorem TblV.keepNo {w w' : World} {t : Nat} {cnt ord : List Nat} (h : TblV w t cnt ord) (k : Keep No w w') : TblV w' t cnt ord := h.keep k (fun _ _ => id)
/-- A step of the reader leaves tables. -/
theorem TblV.keepFp {w w' : World} {t : Nat} {cnt ord : List Nat} (h : TblV w t cnt ord) {base x rb : Nat} {Ar : Option Addr} {cr : Nat} {A : Option Addr} {c : Nat} {s : IS} (hi : InfV w base x rb Ar cr A c s) (k : Keep (fp x rb A) w w') : TblV w' t cnt ord :=
  h.keep k (fun i hty hs => by
    rcases hs with rfl | rfl | ⟨a, ha, rfl⟩
    · rcases hty with g | g
      · exact g.ne hi.1.ty (by decide) rfl
      · exact g.ne hi.1.ty (by decide) rfl
    · rcases hty with g | g
      · exact g.ne hi.2.1.1.ty (by decide) rfl
      · exact g.ne hi.2.1.1.ty (by decide) rfl
    · rcases hty with g | g
      · exact g.ne (hi.2.2.1.ty ha) (by decide) rfl
      · exact g.ne (hi.2.2.1.ty ha) (by decide) rfl)

/-- How many symbols have codes of at most n bits. -/
def preK (cnt : List Nat) : Nat → Nat
  | 0 => 0
  | n + 1 => preK cnt n + cnt.getD (n + 1) 0
/-- The next symbol: its number, what is wrong, the place behind. -/
def takeK (cnt ord : List Nat) (l : List UInt8) : Nat → Nat → Nat → Nat → Nat → Nat → Nat × Nat × Nat
  | 0, _, _, _, _, p => (0, 10, p)
  | f + 1, n, code, fst, a, p =>
    if ord.length ≤ a then (0, 10, p) else
    if 8 * l.length < p + 1 then (0, 2, p) else
    if 2 * code + bitL l p - 2 * fst < cnt.getD n 0 then (ord.getD (a + (2 * code + bitL l p - 2 * fst)) 0, 0, p + 1) else
    takeK cnt ord l f (n + 1) (2 * code + bitL l p) (2 * fst + cnt.getD n 0) (a + cnt.getD n 0) (p + 1)
def takeF (cnt ord : List Nat) (l : List UInt8) (p : Nat) : Nat × Nat × Nat := takeK cnt ord l 15 1 0 0 0 p
theorem numL_one (l : List UInt8) (p : Nat) : numL l p 1 = bitL l p := by simp [numL]
theorem VIdx.nv {w : World} {A : Option Addr} {n : Nat} {l : List Nat} (hs : Sl w 1 A n (l.map nv)) {i : Int} (j : Nat) (hj : (j : Int) = i) (hn : j < n) {K : Addr → Prop}
    (hK : ∀ b o, A = some ⟨b, o, none⟩ → w.cell? ⟨b, o + j, none⟩ = some (Value.int .i64 ((l.getD j 0 : Nat) : Int)) → K ⟨b, o + j, none⟩) : VIdx A n i 1 K := by
  obtain ⟨b, o, hA, hc⟩ := hs.at_ (by omega)
  have hl : l.length = n := by simpa using hs.len
  refine VIdx.one j hj hn hA (hK b o hA (hc j _ ?_))
  rw [List.getElem?_map, List.getElem?_eq_getElem (by omega), List.getD_eq_getElem?_getD, List.getElem?_eq_getElem (by omega)]
  rfl

set_option maxHeartbeats 2000000 in
theorem tbTake_ok (w : World) {t rb : Nat} {cnt ord : List Nat} {A : Option Addr} {c : Nat} {l : List UInt8} {p : Nat} (ht : TblV w t cnt ord) (hv : ∀ n, n ≤ 15 → preK cnt n ≤ ord.length) (hol : ord.length ≤ 5000)
    (hr : RdV w rb A c l p) (hn : l.length ≤ 1000000) (hp : p ≤ 100000000) (hne : ∀ a, A = some a → a.block ≠ rb) :
    VC Tryd.prog 53 [.pointer (some ⟨t, 0, none⟩), .pointer (some ⟨rb, 0, none⟩)] w
      (fun v w' => v = .tuple #[.int .i64 ((takeF cnt ord l p).1 : Nat), .int .i64 ((takeF cnt ord l p).2.1 : Nat)] ∧ RdV w' rb A c l (takeF cnt ord l p).2.2 ∧ Keep (fun k => k = rb) w w') := by
  have hgen : ∀ w', Keep (fun k => k = rb) w w' → TblV w' t cnt ord := fun w' k => ht.keep k (fun i hty e => by
    subst e
    rcases hty with g | g
    · exact g.ne hr.1.ty (by decide) rfl
    · exact g.ne hr.1.ty (by decide) rfl)
  obtain ⟨T, hT⟩ : ∃ T, T = takeF cnt ord l p := ⟨_, rfl⟩
  rw [← hT]
  unfold takeF at hT
  refine VC.of tt_ok Tryd.func53 rfl (by decide +kernel) (Nat.le_of_ble_eq_true rfl) ?_; (conv => whnf)
  obtain ⟨hcl, Lv, Cv, O, co, hb, hso, hty⟩ := ht
  refine VLoad.by_ (hb.cell 0) ?_
  (conv => whnf)
  refine VLoop.by_ tt_ok (S := Nat × Nat × Nat × Nat × Nat) (fun | (f, code, fst, a, q) => [(0, .pointer (some ⟨t, 0, none⟩)), (1, .pointer (some ⟨rb, 0, none⟩)), (6, .int .i64 code), (7, .int .i64 fst), (8, .int .i64 a), (9, .int .i64 ((16 - f : Nat) : Int))])
    (fun | (f, code, fst, a, q) => fun w' => f ≤ 15 ∧ a = preK cnt (15 - f) ∧ fst ≤ code ∧ code < 2 ^ (15 - f) ∧ q ≤ p + 15 - f ∧ T = takeK cnt ord l f (16 - f) code fst a q ∧ RdV w' rb A c l q ∧ Keep (fun k => k = rb) w w') (fun | (f, _) => f)
    (15, 0, 0, 0, p) ⟨rfl, rfl, rfl, rfl, rfl, rfl, trivial⟩ ⟨by omega, rfl, by omega, by omega, by omega, hT, hr, Keep.refl _ _⟩ ?_
  rintro ⟨f, code, fst, a, q⟩ w' ⟨hf, ha, hfc, hcode, hq, hT, hr', kk⟩
  obtain ⟨_, Lv, Cv, O, co, hb, hso, hty⟩ := hgen w' kk
  have hord : w'.cell? ⟨t, 19, none⟩ = some (.slice O ord.length co) := by rw [hb.cell]; exact tbC_ord hcl
  have hcode15 : code < 2 ^ 15 := Nat.lt_of_lt_of_le hcode (Nat.pow_le_pow_right (by omega) (by omega))
  have hal := hv (15 - f) (by omega)
  rw [← ha] at hal
  (conv => whnf)
  refine VCmp.mk (fun h1 => ?_) (fun h1 => ?_) <;> (conv => whnf)
  rotate_left 1
  · obtain rfl : f = 0 := by omega
    subst hT
    exact ⟨rfl, hr', kk⟩
  obtain ⟨g, rfl⟩ : ∃ g, f = g + 1 := ⟨f - 1, by omega⟩
  unfold takeK at hT
  refine VLoad.by_ hord ?_
  (conv => whnf)
  refine VCmp.mk (fun h2 => ?_) (fun h2 => ?_) <;> (conv => whnf)
  rotate_left 1
  · rw [if_pos (by omega)] at hT
    subst hT
    exact ⟨rfl, hr', kk⟩
  rw [if_neg (by omega)] at hT
  refine (rdTake_ok w' (n := 1) hr' (by omega) (by omega) (by omega) hne).mono ?_
  rintro v w1 hv1
  by_cases h3 : 8 * l.length < q + 1
  · rw [if_neg (by omega)] at hv1
    obtain ⟨rfl, k1⟩ := hv1
    rw [if_pos h3] at hT
    subst hT
    (conv => whnf)
    exact ⟨rfl, hr'.keepNo k1, kk.trans (k1.mono fun _ _ h => h.elim)⟩
  rw [if_pos (by omega), numL_one] at hv1
  rw [if_neg h3] at hT
  obtain ⟨rfl, hr1, k1⟩ := hv1
  have kk1 := kk.trans k1
  obtain ⟨_, Lv1, Cv1, O1, co1, hb1, hso1, hty1⟩ := hgen w1 kk1
  have hbit := bitL_le l q
  have hcn : cnt.getD (16 - (g + 1)) 0 ≤ 5000 := by
    have e := hv (16 - (g + 1)) (by omega)
    rw [show 16 - (g + 1) = (15 - (g + 1)) + 1 from by omega] at e ⊢
    unfold preK at e
    omega
  have hpre : preK cnt (15 - g) = a + cnt.getD (16 - (g + 1)) 0 := by
    rw [ha, show 15 - g = (15 - (g + 1)) + 1 from by omega, show 16 - (g + 1) = (15 - (g + 1)) + 1 from by omega]
    rfl
  have hal2 := hv (15 - g) (by omega)
  rw [hpre] at hal2
  have hord1 : w1.cell? ⟨t, 19, none⟩ = some (.slice O1 ord.length co1) := by rw [hb1.cell]; exact tbC_ord hcl
  have hcell : w1.cell? ⟨t, 3 + (16 - (g + 1)), none⟩ = some (.int .i64 ((cnt.getD (16 - (g + 1)) 0 : Nat) : Int)) := by
    rw [hb1.cell]; exact tbC_cnt (by omega)
  (conv => whnf)
  refine VReq.mk (by omega) ?_
  refine VRes.shlNat (N := code) (s := 1) rfl rfl (by omega) (by omega) ?_
  (conv => whnf)
  refine VRes.orNat (N := code * 2 ^ 1) (M := bitL l q) (R := 2 * code + bitL l q) rfl rfl (by omega) (by omega) (or_bit_hi hbit) ?_
  (conv => whnf)
  refine VReq.mk (by omega) ?_
  refine VRes.shlNat (N := fst) (s := 1) rfl rfl (by omega) (by omega) ?_
  (conv => whnf)
  refine VRes.i64 (by omega) ?_; (conv => whnf)
  refine VIdxA.one (16 - (g + 1)) rfl (by omega) rfl ?_
  (conv => whnf)
  refine VLoad.by_ hcell ?_
  (conv => whnf)
  refine VCmp.mk (fun h4 => ?_) (fun h4 => ?_) <;> (conv => whnf)
  · rw [if_pos (by omega)] at hT
    refine VLoad.by_ hord1 ?_
    (conv => whnf)
    refine VRes.i64 (by omega) ?_; (conv => whnf)
    refine VRes.i64 (by omega) ?_; (conv => whnf)
    refine VIdx.nv hso1 (a + (2 * code + bitL l q - 2 * fst)) (by omega) (by omega) (fun b_ o_ hA_ hc_ => ?_)
    (conv => whnf)
    refine VLoad.by_ hc_ ?_
    (conv => whnf)
    subst hT
    exact ⟨rfl, hr1, kk1⟩
  rw [if_neg (by omega)] at hT
  refine VIdxA.one (16 - (g + 1)) rfl (by omega) rfl ?_
  (conv => whnf)
  refine VLoad.by_ hcell ?_
  (conv => whnf)
  refine VRes.i64 (by omega) ?_; (conv => whnf)
  refine VIdxA.one (16 - (g + 1)) rfl (by omega) rfl ?_
  (conv => whnf)
  refine VLoad.by_ hcell ?_
  (conv => whnf)
  refine VRes.i64 (by omega) ?_; (conv => whnf)
  refine VRes.i64 (by omega) ?_; (conv => whnf)
  have e16 : 16 - (g + 1) + 1 = 16 - g := by omega
  rw [e16] at hT
  refine ⟨(g, 2 * code + bitL l q, 2 * fst + cnt.getD (16 - (g + 1)) 0, a + cnt.getD (16 - (g + 1)) 0, q + 1), ⟨rfl, rfl, rfl, ?_, rfl, ?_, trivial⟩, ⟨by omega, by rw [hpre], by omega, ?_, by omega, hT, hr1, kk1⟩, by dsimp only; omega⟩
  · rw [show ((2 * fst + cnt.getD (16 - (g + 1)) 0 : Nat) : Int) = ((fst * 2 ^ 1 : Nat) : Int) + ((cnt.getD (16 - (g + 1)) 0 : Nat) : Int) from by omega]; rfl
  · rw [show ((16 - g : Nat) : Int) = ((16 - (g + 1) : Nat) : Int) + 1 from by omega]; rfl
  · have : 2 ^ (15 - g) = 2 * 2 ^ (15 - (g + 1)) := by
      rw [show 15 - g = (15 - (g + 1)) + 1 from by omega, Nat.pow_succ]; omega
    omega
end Go.Proofs.YtgmopcbfgcagaaaDoor
