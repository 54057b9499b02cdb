/-
  Package inflate: how long a copy is, how far back, copies; symbols to a block's end.
-/
import Derived.Test.YtgmopcbfgcagaaaDoorI4
namespace Go.Proofs.YtgmopcbfgcagaaaDoor
open Go V

def Fine (s : IS) : Prop := s.l.length ≤ 1000000 ∧ s.at_ ≤ 8 * s.l.length ∧ s.from_ ≤ s.all.length ∧ s.all.length ≤ s.from_ + s.most ∧ s.from_ + s.most ≤ 10000000
theorem numL_small (l : List UInt8) (p k : Nat) (hk : k ≤ 20) : numL l p k < 1048576 := Nat.lt_of_lt_of_le (numL_lt l p k) (Nat.pow_le_pow_right (by omega) hk)
theorem takeK_pos (cnt ord : List Nat) (l : List UInt8) : ∀ f n code fst a p, p ≤ 8 * l.length → p ≤ (takeK cnt ord l f n code fst a p).2.2 ∧ (takeK cnt ord l f n code fst a p).2.2 ≤ 8 * l.length ∧ ((takeK cnt ord l f n code fst a p).2.1 = 0 → p + 1 ≤ (takeK cnt ord l f n code fst a p).2.2)
  | 0, n, code, fst, a, p, h => by simp [takeK]; omega
  | f + 1, n, code, fst, a, p, h => by
    unfold takeK
    split
    · simp; omega
    split
    · simp; omega
    split
    · simp; omega
    · have := takeK_pos cnt ord l f (n + 1) (2 * code + bitL l p) (2 * fst + cnt.getD n 0) (a + cnt.getD n 0) (p + 1) (by omega)
      omega
theorem takeF_pos (cnt ord : List Nat) (l : List UInt8) (p : Nat) (h : p ≤ 8 * l.length) : p ≤ (takeF cnt ord l p).2.2 ∧ (takeF cnt ord l p).2.2 ≤ 8 * l.length ∧ ((takeF cnt ord l p).2.1 = 0 → p + 1 ≤ (takeF cnt ord l p).2.2) := takeK_pos cnt ord l 15 1 0 0 0 p h
theorem takeK_err (cnt ord : List Nat) (l : List UInt8) : ∀ f n code fst a p, (takeK cnt ord l f n code fst a p).2.1 ≤ 10
  | 0, n, code, fst, a, p => by simp [takeK]
  | f + 1, n, code, fst, a, p => by
    unfold takeK
    split
    · simp
    split
    · simp
    split
    · simp
    · exact takeK_err cnt ord l f _ _ _ _ _
/-- The symbols are small. -/
theorem takeK_sym (cnt ord : List Nat) (l : List UInt8) (h : ∀ x ∈ ord, x < 1000) : ∀ f n code fst a p, (takeK cnt ord l f n code fst a p).1 < 1000
  | 0, n, code, fst, a, p => by simp [takeK]
  | f + 1, n, code, fst, a, p => by
    unfold takeK
    split
    · simp
    split
    · simp
    split
    · dsimp only
      rw [List.getD_eq_getElem?_getD]
      rcases Nat.lt_or_ge (a + (2 * code + bitL l p - 2 * fst)) ord.length with h1 | h1
      · rw [List.getElem?_eq_getElem h1]; exact h _ (List.getElem_mem h1)
      · rw [List.getElem?_eq_none h1]; decide
    · exact takeK_sym cnt ord l h f _ _ _ _ _

/-- What is asked of a table for its next symbol. -/
def TbOk (cnt ord : List Nat) : Prop := (∀ n, n ≤ 15 → preK cnt n ≤ ord.length) ∧ ord.length ≤ 5000 ∧ ∀ x ∈ ord, x < 1000

def lenF (s : IS) (y : Nat) : Except Nat (Nat × IS) :=
  if 286 ≤ y then .error 10 else if y = 285 then .ok (258, s) else if y < 265 then .ok (y - 254, s) else
  if 8 * s.l.length < s.at_ + (y - 261) / 4 then .error 2 else .ok ((4 + (y - 265) % 4) * 2 ^ ((y - 261) / 4) + 3 + numL s.l s.at_ ((y - 261) / 4), { s with at_ := s.at_ + (y - 261) / 4 })
def distF (cnt ord : List Nat) (s : IS) : Except Nat (Nat × IS) :=
  if (takeF cnt ord s.l s.at_).2.1 ≠ 0 then .error (takeF cnt ord s.l s.at_).2.1 else
  if 30 ≤ (takeF cnt ord s.l s.at_).1 then .error 10 else
  if (takeF cnt ord s.l s.at_).1 < 4 then .ok ((takeF cnt ord s.l s.at_).1 + 1, { s with at_ := (takeF cnt ord s.l s.at_).2.2 }) else
  if 8 * s.l.length < (takeF cnt ord s.l s.at_).2.2 + ((takeF cnt ord s.l s.at_).1 / 2 - 1) then .error 2 else
  .ok ((2 + (takeF cnt ord s.l s.at_).1 % 2) * 2 ^ ((takeF cnt ord s.l s.at_).1 / 2 - 1) + 1 + numL s.l (takeF cnt ord s.l s.at_).2.2 ((takeF cnt ord s.l s.at_).1 / 2 - 1), { s with at_ := (takeF cnt ord s.l s.at_).2.2 + ((takeF cnt ord s.l s.at_).1 / 2 - 1) })
def copyAll (all : List UInt8) (back : Nat) : Nat → List UInt8
  | 0 => all
  | k + 1 => copyAll all back k ++ [(copyAll all back k).getD ((copyAll all back k).length - back) 0]
theorem copyAll_len (all : List UInt8) (back k : Nat) : (copyAll all back k).length = all.length + k := by
  induction k with
  | zero => rfl
  | succ k ih => rw [copyAll, List.length_append, ih]; rfl
def copyF (cnt ord : List Nat) (s : IS) (y : Nat) : Except Nat IS :=
  match lenF s y with
  | .error e => .error e
  | .ok (n, s1) => match distF cnt ord s1 with
    | .error e => .error e
    | .ok (b, s2) => if s2.all.length < b then .error 10 else if s2.most < s2.all.length - s2.from_ + n then .error 3 else .ok { s2 with all := copyAll s2.all b n }
def symF (cnt ord cntD ordD : List Nat) : Nat → IS → Except Nat IS
  | 0, _ => .error 0
  | f + 1, s =>
    if (takeF cnt ord s.l s.at_).2.1 ≠ 0 then .error (takeF cnt ord s.l s.at_).2.1 else
    if (takeF cnt ord s.l s.at_).1 = 256 then .ok { s with at_ := (takeF cnt ord s.l s.at_).2.2 } else
    if 256 < (takeF cnt ord s.l s.at_).1 then (match copyF cntD ordD { s with at_ := (takeF cnt ord s.l s.at_).2.2 } (takeF cnt ord s.l s.at_).1 with
      | .error e => .error e
      | .ok s' => symF cnt ord cntD ordD f s') else
    if s.most < s.all.length - s.from_ + 1 then .error 3 else
    symF cnt ord cntD ordD f { s with at_ := (takeF cnt ord s.l s.at_).2.2, all := s.all ++ [UInt8.ofNat (takeF cnt ord s.l s.at_).1] }

theorem length_ok (w : World) {base x rb : Nat} {Ar : Option Addr} {cr : Nat} {A : Option Addr} {c : Nat} {s : IS} (h : InfV w base x rb Ar cr A c s) (hf : Fine s) {y : Nat} (hy : 256 < y) (hy2 : y < 1000) :
    VC Tryd.prog 70 [.pointer (some ⟨x, 0, none⟩), .int .i64 y] w
      (fun v w' => (match lenF s y with | .error e => ∃ z E, v = .tuple #[.int .i64 z, E] ∧ BadV w' E e | .ok (n, s') => v = .tuple #[.int .i64 n, .nilIface] ∧ InfV w' base x rb Ar cr A c s') ∧ Keep (fun k => k = rb) w w') := by
  obtain ⟨f1, f2, f3, f4, f5⟩ := hf
  have noF : ∀ {w1 w2 : World}, Keep No w1 w2 → Keep (fun k => k = rb) w1 w2 := fun k => k.mono fun _ _ h => h.elim
  obtain ⟨F, hF⟩ : ∃ F, F = lenF s y := ⟨_, rfl⟩
  rw [← hF]
  unfold lenF at hF
  refine VC.of tt_ok Tryd.func70 rfl (by decide +kernel) (Nat.le_of_ble_eq_true rfl) ?_; (conv => whnf)
  refine VCmp.mk (fun g1 => ?_) (fun g1 => ?_) <;> (conv => whnf)
  · rw [if_pos (by omega)] at hF
    subst hF
    refine (bad_ok w 10 (by omega)).mono ?_
    rintro v w1 ⟨hE, k1⟩
    (conv => whnf)
    exact ⟨⟨0, v, rfl, hE⟩, noF k1⟩
  rw [if_neg (by omega)] at hF
  refine VCmp.mk (fun g2 => ?_) (fun g2 => ?_) <;> (conv => whnf)
  · rw [if_pos (by omega)] at hF
    subst hF
    exact ⟨⟨rfl, h⟩, Keep.refl _ _⟩
  rw [if_neg (by omega)] at hF
  refine VCmp.mk (fun g3 => ?_) (fun g3 => ?_) <;> (conv => whnf)
  · rw [if_pos (by omega)] at hF
    subst hF
    refine VRes.i64 (by omega) ?_; (conv => whnf)
    rw [show (y : Int) - 254 = ((y - 254 : Nat) : Int) from by omega]
    exact ⟨⟨rfl, h⟩, Keep.refl _ _⟩
  rw [if_neg (by omega)] at hF
  obtain ⟨e, he⟩ : ∃ e, e = (y - 261) / 4 := ⟨_, rfl⟩
  rw [← he] at hF
  have he5 : e ≤ 6 := by omega
  have q1 : ((y : Int) - 261).tdiv 4 = (e : Int) := by rw [Int.tdiv_eq_ediv_of_nonneg (by omega)]; omega
  have q2 : ((y : Int) - 265).tmod 4 = (((y - 265) % 4 : Nat) : Int) := by rw [Int.tmod_eq_emod_of_nonneg (by omega)]; omega
  have hp : 2 ^ e ≤ 2 ^ 6 := Nat.pow_le_pow_right (by omega) he5
  have hpm : (4 + (y - 265) % 4) * 2 ^ e ≤ 8 * 64 := Nat.mul_le_mul (by omega) hp
  refine VRes.i64 (by omega) ?_; (conv => whnf)
  refine VReq.mk (by omega) ?_
  rw [q1]
  refine VRes.i64 (by omega) ?_; (conv => whnf)
  refine (iTake_ok w h f1 (by omega) (n := e) (by omega)).mono ?_
  rintro v w1 ⟨hv, k1⟩
  by_cases g4 : s.at_ + e ≤ 8 * s.l.length
  · rw [if_pos g4] at hv
    rw [if_neg (by omega)] at hF
    obtain ⟨rfl, h1⟩ := hv
    have hN := numL_small s.l s.at_ e (by omega)
    (conv => whnf)
    refine VRes.i64 (by omega) ?_; (conv => whnf)
    refine VReq.mk (by omega) ?_
    refine VRes.to (congrArg (Value.int .i64) q2) ?_
    (conv => whnf)
    rw [show (4 : Int) + (((y - 265) % 4 : Nat) : Int) = ((4 + (y - 265) % 4 : Nat) : Int) from by omega]
    refine VRes.i64 (by omega) ?_; (conv => whnf)
    refine VReq.mk (by omega) ?_
    refine VRes.shlNat (N := 4 + (y - 265) % 4) (s := e) rfl rfl (by omega) (by omega) ?_
    (conv => whnf)
    refine VRes.i64 (by omega) ?_; (conv => whnf)
    refine VRes.i64 (by omega) ?_; (conv => whnf)
    subst hF
    exact ⟨⟨rfl, h1⟩, k1⟩
  · rw [if_neg g4] at hv
    rw [if_pos (by omega)] at hF
    obtain ⟨E, rfl, hE⟩ := hv
    (conv => whnf)
    refine VRes.i64 (by omega) ?_; (conv => whnf)
    refine VReq.mk (by omega) ?_
    refine VRes.to (congrArg (Value.int .i64) q2) ?_
    (conv => whnf)
    rw [show (4 : Int) + (((y - 265) % 4 : Nat) : Int) = ((4 + (y - 265) % 4 : Nat) : Int) from by omega]
    refine VRes.i64 (by omega) ?_; (conv => whnf)
    refine VReq.mk (by omega) ?_
    refine VRes.shlNat (N := 4 + (y - 265) % 4) (s := e) rfl rfl (by omega) (by omega) ?_
    (conv => whnf)
    refine VRes.i64 (by omega) ?_; (conv => whnf)
    refine VRes.i64 (by omega) ?_; (conv => whnf)
    subst hF
    exact ⟨⟨_, E, rfl, hE⟩, k1⟩

theorem InfV.take {w w' : World} {base x rb : Nat} {Ar : Option Addr} {cr : Nat} {A : Option Addr} {c : Nat} {s : IS} (h : InfV w base x rb Ar cr A c s) (k : Keep (fun k => k = rb) w w') {p : Nat} (hr : RdV w' rb Ar cr s.l p) : InfV w' base x rb Ar cr A c { s with at_ := p } := h.move k hr

theorem distance_ok (w : World) {base x rb : Nat} {Ar : Option Addr} {cr : Nat} {A : Option Addr} {c : Nat} {s : IS} (h : InfV w base x rb Ar cr A c s) (hf : Fine s) {t : Nat} {cnt ord : List Nat} (ht : TblV w t cnt ord) (hok : TbOk cnt ord) :
    VC Tryd.prog 71 [.pointer (some ⟨x, 0, none⟩), .pointer (some ⟨t, 0, none⟩)] w
      (fun v w' => (match distF cnt ord s with | .error e => ∃ z E, v = .tuple #[.int .i64 z, E] ∧ BadV w' E e | .ok (n, s') => v = .tuple #[.int .i64 n, .nilIface] ∧ InfV w' base x rb Ar cr A c s') ∧ Keep (fun k => k = rb) w w') := by
  obtain ⟨f1, f2, f3, f4, f5⟩ := hf
  have noF : ∀ {w1 w2 : World}, Keep No w1 w2 → Keep (fun k => k = rb) w1 w2 := fun k => k.mono fun _ _ h => h.elim
  obtain ⟨F, hF⟩ : ∃ F, F = distF cnt ord s := ⟨_, rfl⟩
  rw [← hF]
  unfold distF at hF
  obtain ⟨hp1, hp2, hp3⟩ := takeF_pos cnt ord s.l s.at_ f2
  have herr := takeK_err cnt ord s.l 15 1 0 0 0 s.at_
  obtain ⟨T, hT⟩ : ∃ T, T = takeF cnt ord s.l s.at_ := ⟨_, rfl⟩
  have herr : T.2.1 ≤ 10 := by rw [hT]; exact herr
  rw [← hT] at hF hp1 hp2 hp3
  obtain ⟨y, er, p⟩ := T
  dsimp only at hF hp1 hp2 hp3 herr
  refine VC.of tt_ok Tryd.func71 rfl (by decide +kernel) (Nat.le_of_ble_eq_true rfl) ?_; (conv => whnf)
  refine VLoad.by_ (h.1.cell 0) ?_
  (conv => whnf)
  refine (tbTake_ok w ht hok.1 hok.2.1 h.2.1 f1 (by omega) (fun a ha => (h.arb a ha).1)).mono ?_
  rintro v w1 ⟨rfl, hr1, k1⟩
  rw [← hT] at hr1
  rw [← hT]
  have h1 := h.move k1 hr1
  dsimp only at hr1 h1
  (conv => whnf)
  refine VCmp.mk (fun g1 => ?_) (fun g1 => ?_) <;> (conv => whnf)
  · have g1 : (er : Int) ≠ 0 := g1
    rw [if_pos (by omega)] at hF
    subst hF
    refine (bad_ok w1 er (by omega)).mono ?_
    rintro v w2 ⟨hE, k2⟩
    (conv => whnf)
    exact ⟨⟨0, v, rfl, hE⟩, k1.trans (noF k2)⟩
  have g1 : ¬ (er : Int) ≠ 0 := g1
  rw [if_neg (by omega)] at hF
  refine VCmp.mk (fun g2 => ?_) (fun g2 => ?_) <;> (conv => whnf)
  · rw [if_pos (by omega)] at hF
    subst hF
    refine (bad_ok w1 10 (by omega)).mono ?_
    rintro v w2 ⟨hE, k2⟩
    (conv => whnf)
    exact ⟨⟨0, v, rfl, hE⟩, k1.trans (noF k2)⟩
  rw [if_neg (by omega)] at hF
  refine VCmp.mk (fun g3 => ?_) (fun g3 => ?_) <;> (conv => whnf)
  · rw [if_pos (by omega)] at hF
    subst hF
    refine VRes.i64 (by omega) ?_; (conv => whnf)
    exact ⟨⟨rfl, h1⟩, k1⟩
  rw [if_neg (by omega)] at hF
  obtain ⟨e, he⟩ : ∃ e, e = y / 2 - 1 := ⟨_, rfl⟩
  rw [← he] at hF
  have he5 : e ≤ 14 := by omega
  have q1 : (y : Int).tdiv 2 = ((y / 2 : Nat) : Int) := by rw [Int.tdiv_eq_ediv_of_nonneg (by omega)]; rfl
  have q2 : (y : Int).tmod 2 = ((y % 2 : Nat) : Int) := by rw [Int.tmod_eq_emod_of_nonneg (by omega)]; rfl
  have hp : 2 ^ e ≤ 2 ^ 14 := Nat.pow_le_pow_right (by omega) he5
  have hpm : (2 + y % 2) * 2 ^ e ≤ 4 * 16384 := Nat.mul_le_mul (by omega) hp
  refine VReq.mk (by omega) ?_
  rw [q1]
  refine VRes.i64 (by omega) ?_; (conv => whnf)
  rw [show ((y / 2 : Nat) : Int) - 1 = (e : Int) from by omega]
  refine VRes.i64 (by omega) ?_; (conv => whnf)
  refine (iTake_ok w1 h1 f1 (by dsimp only; omega) (n := e) (by omega)).mono ?_
  rintro v w2 ⟨hv, k2⟩
  have k2 := k1.trans k2
  dsimp only at hv
  by_cases g4 : p + e ≤ 8 * s.l.length
  · rw [if_pos g4] at hv
    rw [if_neg (by omega)] at hF
    obtain ⟨rfl, h2⟩ := hv
    have hN := numL_small s.l p e (by omega)
    (conv => whnf)
    refine VReq.mk (by omega) ?_
    refine VRes.to (congrArg (Value.int .i64) q2) ?_
    (conv => whnf)
    rw [show (2 : Int) + ((y % 2 : Nat) : Int) = ((2 + y % 2 : Nat) : Int) from by omega]
    refine VRes.i64 (by omega) ?_; (conv => whnf)
    refine VReq.mk (by omega) ?_
    refine VRes.shlNat (N := 2 + y % 2) (s := e) rfl rfl (by omega) (by omega) ?_
    (conv => whnf)
    refine VRes.i64 (by omega) ?_; (conv => whnf)
    refine VRes.i64 (by omega) ?_; (conv => whnf)
    subst hF
    exact ⟨⟨rfl, h2⟩, k2⟩
  · rw [if_neg g4] at hv
    rw [if_pos (by omega)] at hF
    obtain ⟨E, rfl, hE⟩ := hv
    (conv => whnf)
    refine VReq.mk (by omega) ?_
    refine VRes.to (congrArg (Value.int .i64) q2) ?_
    (conv => whnf)
    rw [show (2 : Int) + ((y % 2 : Nat) : Int) = ((2 + y % 2 : Nat) : Int) from by omega]
    refine VRes.i64 (by omega) ?_; (conv => whnf)
    refine VReq.mk (by omega) ?_
    refine VRes.shlNat (N := 2 + y % 2) (s := e) rfl rfl (by omega) (by omega) ?_
    (conv => whnf)
    refine VRes.i64 (by omega) ?_; (conv => whnf)
    refine VRes.i64 (by omega) ?_; (conv => whnf)
    subst hF
    exact ⟨⟨_, E, rfl, hE⟩, k2⟩
end Go.Proofs.YtgmopcbfgcagaaaDoor
