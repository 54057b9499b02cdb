/-
  Frames: May, Encode; the reference's.
-/
import Derived.Test.YtpofkhjkdkkajaaDoorF3
namespace Go.Proofs.YtpofkhjkdkkajaaDoor
open Go V

/-- A form, as a value. -/
structure Fo where
  acfc : Bool
  pfc : Bool
def Fo.v (f : Fo) : Value := .agg #[.bool f.acfc, .bool f.pfc]
abbrev TFo : TypeId := 24

theorem VRes.and64 {N M : Nat} {a b : Int} {K : Value → Prop} (ha : a = (N : Int)) (hb : b = (M : Int)) (hN : N < 9223372036854775808) (hM : M < 9223372036854775808) (hK : K (.int .i64 ((N &&& M : Nat) : Int))) :
    VRes (.int .i64 (IntKind.wrap .i64 ((BitVec.ofInt (IntKind.bits .i64) a &&& BitVec.ofInt (IntKind.bits .i64) b).toNat : Int))) K := by
  subst ha; subst hb
  refine VRes.to (congrArg (Value.int .i64) ?_) hK
  show IntKind.wrap .i64 ((BitVec.ofInt 64 (N : Int) &&& BitVec.ofInt 64 (M : Int)).toNat : Int) = _
  rw [BitVec.ofInt_natCast, BitVec.ofInt_natCast, BitVec.toNat_and, BitVec.toNat_ofNat, BitVec.toNat_ofNat, Nat.mod_eq_of_lt (by omega), Nat.mod_eq_of_lt (by omega)]
  have := Nat.and_le_left (n := N) (m := M)
  exact wrap_i64 (by omega)

def mayB (p : Int) : Bool := decide (0 ≤ p) && (decide (p ≤ 65535) && (decide (p.toNat &&& 1 = 1) && (decide (p.toNat &&& 256 = 0) && decide (p ≠ 255))))
theorem may_prop (p : Int) : mayB p = true ↔ 0 ≤ p ∧ p ≤ 65535 ∧ p.toNat &&& 1 = 1 ∧ p.toNat &&& 256 = 0 ∧ p ≠ 255 := by
  simp [mayB]


/-- What stands ahead of the info. -/
def headP (p : Int) (f : Fo) : List UInt8 :=
  let f := if p = 49185 then ⟨false, false⟩ else f
  (if f.acfc then [] else [0xff, 0x03]) ++ ((if f.pfc ∧ p ≤ 255 then [] else [UInt8.ofNat (p.toNat / 2 ^ 8)]) ++ [UInt8.ofNat p.toNat])
theorem headP_lcp {p : Int} {f : Fo} (h : p = 49185) : headP p f = [255, 3, UInt8.ofNat (p.toNat / 2 ^ 8), UInt8.ofNat p.toNat] := by
  unfold headP
  dsimp only
  rw [if_pos h]
  rfl
theorem headP_w {p : Int} {a q : Bool} (h : ¬ p = 49185) (hq : q = false ∨ 255 < p) : headP p ⟨a, q⟩ = (if a then [] else [255, 3]) ++ [UInt8.ofNat (p.toNat / 2 ^ 8), UInt8.ofNat p.toNat] := by
  unfold headP
  dsimp only
  rw [if_neg h, if_neg (fun e : q = true ∧ p ≤ 255 => by rcases hq with h1 | h1; (· rw [h1] at e; cases e.1); have := e.2; omega)]
  rfl
theorem headP_n {p : Int} {a : Bool} (h : ¬ p = 49185) (hq : p ≤ 255) : headP p ⟨a, true⟩ = (if a then [] else [255, 3]) ++ [UInt8.ofNat p.toNat] := by
  unfold headP
  dsimp only
  rw [if_neg h, if_pos (show true = true ∧ p ≤ 255 from ⟨rfl, hq⟩)]
  rfl
theorem headP_len (p : Int) (f : Fo) : (headP p f).length ≤ 4 := by
  unfold headP
  dsimp only
  split <;> split <;> split <;> simp
def encF (p : Int) (info : List UInt8) (f : Fo) : List UInt8 × Int := if mayB p then (if 1516 < info.length then ([], 3) else (headP p f ++ info, 0)) else ([], 1)
theorem encF_len (p : Int) (info : List UInt8) (f : Fo) : (encF p info f).1.length ≤ 1520 := by
  have := headP_len p f
  unfold encF
  split
  · split
    · simp
    · show (headP p f ++ info).length ≤ _
      rw [List.length_append]; omega
  · simp
def BytesN (w : World) (base : Nat) (v : Value) (r : List UInt8 × Int) : Prop := ∃ A c, v = .tuple #[.slice A r.1.length c, .int .i64 r.2] ∧ Own w base T8 1 A r.1.length c (r.1.map vb)



theorem refMay_ok (w : World) (p : Int) : VC Tryd.prog 27 [.int .i64 p] w (fun v w' => v = .bool (mayB p) ∧ w = w') := by
  have no : ¬ (0 ≤ p ∧ p ≤ 65535 ∧ p.toNat &&& 1 = 1 ∧ p.toNat &&& 256 = 0 ∧ p ≠ 255) → false = mayB p := fun h => by
    cases hm : mayB p with
    | false => rfl
    | true => exact absurd ((may_prop p).1 hm) h
  refine VC.of tt_ok Tryd.func27 rfl (by decide +kernel) (Nat.le_of_ble_eq_true rfl) ?_; (conv => whnf)
  refine VCmp.mk (fun h1 => ?_) (fun h1 => ?_) <;> (conv => whnf)
  rotate_left 1
  · exact ⟨congrArg Value.bool (no (by omega)), rfl⟩
  refine VCmp.mk (fun h2 => ?_) (fun h2 => ?_) <;> (conv => whnf)
  rotate_left 1
  · exact ⟨congrArg Value.bool (no (by omega)), rfl⟩
  refine VRes.and64 (N := p.toNat) (M := 1) (by omega) rfl (by omega) (by omega) ?_
  (conv => whnf)
  refine VCmp.mk (fun h3 => ?_) (fun h3 => ?_) <;> (conv => whnf)
  rotate_left 1
  · exact ⟨congrArg Value.bool (no (by omega)), rfl⟩
  refine VRes.and64 (N := p.toNat) (M := 256) (by omega) rfl (by omega) (by omega) ?_
  (conv => whnf)
  refine VCmp.mk (fun h4 => ?_) (fun h4 => ?_) <;> (conv => whnf)
  rotate_left 1
  · exact ⟨congrArg Value.bool (no (by omega)), rfl⟩
  refine VCmp.mk (fun h5 => ?_) (fun h5 => ?_) <;> (conv => whnf)
  rotate_left 1
  · exact ⟨congrArg Value.bool (no (by omega)), rfl⟩
  exact ⟨congrArg Value.bool ((may_prop p).2 ⟨h1, h2, by omega, by omega, h5⟩).symm, rfl⟩

theorem refEncode_ok (w : World) (p : Int) {A : Option Addr} {n c : Nat} {l : List UInt8} (f : Fo) (hs : Sl w 1 A n (l.map vb)) (hn : n ≤ 1000000) :
    VC Tryd.prog 16 [.int .i64 p, .slice A n c, f.v] w (fun v w' => BytesN w' w.heap.size v (encF p l f) ∧ Keep No w w') := by
  have hl : l.length = n := by simpa using hs.len
  unfold Fo.v
  refine VC.of tt_ok Tryd.func16 rfl (by decide +kernel) (Nat.le_of_ble_eq_true rfl) ?_; (conv => whnf)
  refine ⟨fun w1 hb kp => ?_⟩; have hb_lt := Blk.lt hb; have kp_sz := kp.size; (conv => whnf)
  refine (refMay_ok w1 p).mono ?_
  rintro v w' ⟨rfl, rfl⟩
  cases hm : mayB p with
  | false =>
    (conv => whnf)
    have e : encF p l f = ([], 1) := by unfold encF; rw [hm]; rfl
    rw [e]
    exact ⟨⟨none, 0, rfl, Own.nil _ _ _ _⟩, kp⟩
  | true =>
  (conv => whnf)
  refine VCmp.mk (fun h => ?_) (fun h => ?_) <;> (conv => whnf)
  · have e : encF p l f = ([], 3) := by unfold encF; rw [hm, if_pos rfl, if_pos (by omega)]
    rw [e]
    exact ⟨⟨none, 0, rfl, Own.nil _ _ _ _⟩, kp⟩
  have hgood : encF p l f = (headP p f ++ l, 0) := by unfold encF; rw [hm, if_pos rfl, if_neg (by omega)]
  obtain ⟨m1, m2, _⟩ := (may_prop p).1 hm
  refine VCmp.mk (fun hp0 => ?_) (fun hp0 => ?_) <;> (conv => whnf)
  · refine VFill.by_ rfl ?_; (conv => whnf)
    (refine VReq.mk ⟨rfl, (fun u hu => List.all_eq_true.mp (show List.all _ (fun u => u.oneCell') = true by rfl) u hu)⟩ ?_; (conv => whnf)); refine VStore.all (hb) rfl ?_; intro w3 hb3 hk3 hk3_sz; (conv => whnf)
    have kp := kp.fresh_ hk3 (Nat.le_refl _)
    have hb := hb3
    have hown : Own w3 w.heap.size T8 1 none 0 0 (([] : List UInt8).map vb) := Own.nil _ _ _ _
    refine VLoad.by_ ((hb).cell 0) ?_; (conv => whnf)
    refine VFill.by_ rfl ?_; (conv => whnf)
    refine ⟨fun x1 hbx hkx => ?_⟩; have hbx_lt := Blk.lt hbx; have hkx_sz := hkx.size; (conv => whnf)
    have kp := kp.keepNo hkx; have hb := hb.keepNo hkx; have hown := hown.keepNo hkx
    refine app8 (w0 := w) (ys := [255, 3]) kp hown (Sl.ofBlk (n := 2) (size := 1) hbx rfl) (by omega) ?_
    intro A_ c_ x2 ho2_ kp hkA_ _
    have hb := hb.keep hkA_ (fun ⟨a, ha, e⟩ => hown.type_ne ha hb (by decide) e)
    have hown := ho2_
    (conv => whnf)
    refine VLoad.by_ ((hb).cell 1) ?_; (conv => whnf)
    refine VReq.mk (by omega) ?_
    refine VRes.shrN (N := p.toNat) (s := 8) (by omega) rfl (by decide) ?_
    (conv => whnf)
    refine VRes.byte rfl ?_
    (conv => whnf)
    refine VFill.by_ rfl ?_; (conv => whnf)
    refine ⟨fun x1 hbx hkx => ?_⟩; have hbx_lt := Blk.lt hbx; have hkx_sz := hkx.size; (conv => whnf)
    have kp := kp.keepNo hkx; have hb := hb.keepNo hkx; have hown := hown.keepNo hkx
    refine app8 (w0 := w) (ys := [UInt8.ofNat (p.toNat / 2 ^ 8)]) kp hown (Sl.ofBlk (n := 1) (size := 1) hbx rfl) (by omega) ?_
    intro A_ c_ x2 ho2_ kp hkA_ _
    have hb := hb.keep hkA_ (fun ⟨a, ha, e⟩ => hown.type_ne ha hb (by decide) e)
    have hown := ho2_
    (conv => whnf)
    refine VRes.byte (N := p.toNat) (by omega) ?_
    (conv => whnf)
    refine VFill.by_ rfl ?_; (conv => whnf)
    refine ⟨fun x1 hbx hkx => ?_⟩; have hbx_lt := Blk.lt hbx; have hkx_sz := hkx.size; (conv => whnf)
    have kp := kp.keepNo hkx; have hb := hb.keepNo hkx; have hown := hown.keepNo hkx
    refine app8 (w0 := w) (ys := [UInt8.ofNat p.toNat]) kp hown (Sl.ofBlk (n := 1) (size := 1) hbx rfl) (by omega) ?_
    intro A_ c_ x2 ho2_ kp hkA_ _
    have hb := hb.keep hkA_ (fun ⟨a, ha, e⟩ => hown.type_ne ha hb (by decide) e)
    have hown := ho2_
    (conv => whnf)
    refine app8 (w0 := w) kp hown (hs.keepNo kp) (by omega) ?_
    intro A9 c9 x9 ho9 kp9 _ _
    (conv => whnf)
    have e : headP p f = [255, 3, UInt8.ofNat (p.toNat / 2 ^ 8), UInt8.ofNat p.toNat] := by
      first
        | exact headP_lcp hp0
        | exact headP_w hp0 (.inl rfl)
        | exact headP_w hp0 (.inr (by omega))
        | exact headP_n hp0 (by omega)
    rw [hgood, e]
    have hlen : ([255, 3, UInt8.ofNat (p.toNat / 2 ^ 8), UInt8.ofNat p.toNat] ++ l).length = [255, 3, UInt8.ofNat (p.toNat / 2 ^ 8), UInt8.ofNat p.toNat].length + n := by rw [List.length_append, hl]
    refine ⟨⟨A9, c9, ?_, ?_⟩, kp9⟩
    · show Value.tuple #[.slice A9 _ c9, _] = .tuple #[.slice A9 ([255, 3, UInt8.ofNat (p.toNat / 2 ^ 8), UInt8.ofNat p.toNat] ++ l).length c9, _]
      first | (rw [hlen]; done) | (rw [hlen]; rfl)
    · show Own x9 _ _ _ _ ([255, 3, UInt8.ofNat (p.toNat / 2 ^ 8), UInt8.ofNat p.toNat] ++ l).length _ _
      rw [hlen]; exact ho9
  · have hown : Own w1 w.heap.size T8 1 none 0 0 (([] : List UInt8).map vb) := Own.nil _ _ _ _
    obtain ⟨a, q⟩ := f
    cases a <;> cases q
    · skip
      refine VLoad.by_ ((hb).cell 0) ?_; (conv => whnf)
      refine VFill.by_ rfl ?_; (conv => whnf)
      refine ⟨fun x1 hbx hkx => ?_⟩; have hbx_lt := Blk.lt hbx; have hkx_sz := hkx.size; (conv => whnf)
      have kp := kp.keepNo hkx; have hb := hb.keepNo hkx; have hown := hown.keepNo hkx
      refine app8 (w0 := w) (ys := [255, 3]) kp hown (Sl.ofBlk (n := 2) (size := 1) hbx rfl) (by omega) ?_
      intro A_ c_ x2 ho2_ kp hkA_ _
      have hb := hb.keep hkA_ (fun ⟨a, ha, e⟩ => hown.type_ne ha hb (by decide) e)
      have hown := ho2_
      (conv => whnf)
      refine VLoad.by_ ((hb).cell 1) ?_; (conv => whnf)
      refine VReq.mk (by omega) ?_
      refine VRes.shrN (N := p.toNat) (s := 8) (by omega) rfl (by decide) ?_
      (conv => whnf)
      refine VRes.byte rfl ?_
      (conv => whnf)
      refine VFill.by_ rfl ?_; (conv => whnf)
      refine ⟨fun x1 hbx hkx => ?_⟩; have hbx_lt := Blk.lt hbx; have hkx_sz := hkx.size; (conv => whnf)
      have kp := kp.keepNo hkx; have hb := hb.keepNo hkx; have hown := hown.keepNo hkx
      refine app8 (w0 := w) (ys := [UInt8.ofNat (p.toNat / 2 ^ 8)]) kp hown (Sl.ofBlk (n := 1) (size := 1) hbx rfl) (by omega) ?_
      intro A_ c_ x2 ho2_ kp hkA_ _
      have hb := hb.keep hkA_ (fun ⟨a, ha, e⟩ => hown.type_ne ha hb (by decide) e)
      have hown := ho2_
      (conv => whnf)
      refine VRes.byte (N := p.toNat) (by omega) ?_
      (conv => whnf)
      refine VFill.by_ rfl ?_; (conv => whnf)
      refine ⟨fun x1 hbx hkx => ?_⟩; have hbx_lt := Blk.lt hbx; have hkx_sz := hkx.size; (conv => whnf)
      have kp := kp.keepNo hkx; have hb := hb.keepNo hkx; have hown := hown.keepNo hkx
      refine app8 (w0 := w) (ys := [UInt8.ofNat p.toNat]) kp hown (Sl.ofBlk (n := 1) (size := 1) hbx rfl) (by omega) ?_
      intro A_ c_ x2 ho2_ kp hkA_ _
      have hb := hb.keep hkA_ (fun ⟨a, ha, e⟩ => hown.type_ne ha hb (by decide) e)
      have hown := ho2_
      (conv => whnf)
      refine app8 (w0 := w) kp hown (hs.keepNo kp) (by omega) ?_
      intro A9 c9 x9 ho9 kp9 _ _
      (conv => whnf)
      have e : headP p ⟨false, false⟩ = [255, 3, UInt8.ofNat (p.toNat / 2 ^ 8), UInt8.ofNat p.toNat] := by
        first
          | exact headP_lcp hp0
          | exact headP_w hp0 (.inl rfl)
          | exact headP_w hp0 (.inr (by omega))
          | exact headP_n hp0 (by omega)
      rw [hgood, e]
      have hlen : ([255, 3, UInt8.ofNat (p.toNat / 2 ^ 8), UInt8.ofNat p.toNat] ++ l).length = [255, 3, UInt8.ofNat (p.toNat / 2 ^ 8), UInt8.ofNat p.toNat].length + n := by rw [List.length_append, hl]
      refine ⟨⟨A9, c9, ?_, ?_⟩, kp9⟩
      · show Value.tuple #[.slice A9 _ c9, _] = .tuple #[.slice A9 ([255, 3, UInt8.ofNat (p.toNat / 2 ^ 8), UInt8.ofNat p.toNat] ++ l).length c9, _]
        first | (rw [hlen]; done) | (rw [hlen]; rfl)
      · show Own x9 _ _ _ _ ([255, 3, UInt8.ofNat (p.toNat / 2 ^ 8), UInt8.ofNat p.toNat] ++ l).length _ _
        rw [hlen]; exact ho9
    · skip
      refine VLoad.by_ ((hb).cell 0) ?_; (conv => whnf)
      refine VFill.by_ rfl ?_; (conv => whnf)
      refine ⟨fun x1 hbx hkx => ?_⟩; have hbx_lt := Blk.lt hbx; have hkx_sz := hkx.size; (conv => whnf)
      have kp := kp.keepNo hkx; have hb := hb.keepNo hkx; have hown := hown.keepNo hkx
      refine app8 (w0 := w) (ys := [255, 3]) kp hown (Sl.ofBlk (n := 2) (size := 1) hbx rfl) (by omega) ?_
      intro A_ c_ x2 ho2_ kp hkA_ _
      have hb := hb.keep hkA_ (fun ⟨a, ha, e⟩ => hown.type_ne ha hb (by decide) e)
      have hown := ho2_
      (conv => whnf)
      refine VLoad.by_ ((hb).cell 1) ?_; (conv => whnf)
      refine VCmp.mk (fun h255 => ?_) (fun h255 => ?_) <;> (conv => whnf)
      · skip
        refine VReq.mk (by omega) ?_
        refine VRes.shrN (N := p.toNat) (s := 8) (by omega) rfl (by decide) ?_
        (conv => whnf)
        refine VRes.byte rfl ?_
        (conv => whnf)
        refine VFill.by_ rfl ?_; (conv => whnf)
        refine ⟨fun x1 hbx hkx => ?_⟩; have hbx_lt := Blk.lt hbx; have hkx_sz := hkx.size; (conv => whnf)
        have kp := kp.keepNo hkx; have hb := hb.keepNo hkx; have hown := hown.keepNo hkx
        refine app8 (w0 := w) (ys := [UInt8.ofNat (p.toNat / 2 ^ 8)]) kp hown (Sl.ofBlk (n := 1) (size := 1) hbx rfl) (by omega) ?_
        intro A_ c_ x2 ho2_ kp hkA_ _
        have hb := hb.keep hkA_ (fun ⟨a, ha, e⟩ => hown.type_ne ha hb (by decide) e)
        have hown := ho2_
        (conv => whnf)
        refine VRes.byte (N := p.toNat) (by omega) ?_
        (conv => whnf)
        refine VFill.by_ rfl ?_; (conv => whnf)
        refine ⟨fun x1 hbx hkx => ?_⟩; have hbx_lt := Blk.lt hbx; have hkx_sz := hkx.size; (conv => whnf)
        have kp := kp.keepNo hkx; have hb := hb.keepNo hkx; have hown := hown.keepNo hkx
        refine app8 (w0 := w) (ys := [UInt8.ofNat p.toNat]) kp hown (Sl.ofBlk (n := 1) (size := 1) hbx rfl) (by omega) ?_
        intro A_ c_ x2 ho2_ kp hkA_ _
        have hb := hb.keep hkA_ (fun ⟨a, ha, e⟩ => hown.type_ne ha hb (by decide) e)
        have hown := ho2_
        (conv => whnf)
        refine app8 (w0 := w) kp hown (hs.keepNo kp) (by omega) ?_
        intro A9 c9 x9 ho9 kp9 _ _
        (conv => whnf)
        have e : headP p ⟨false, true⟩ = [255, 3, UInt8.ofNat (p.toNat / 2 ^ 8), UInt8.ofNat p.toNat] := by
          first
            | exact headP_lcp hp0
            | exact headP_w hp0 (.inl rfl)
            | exact headP_w hp0 (.inr (by omega))
            | exact headP_n hp0 (by omega)
        rw [hgood, e]
        have hlen : ([255, 3, UInt8.ofNat (p.toNat / 2 ^ 8), UInt8.ofNat p.toNat] ++ l).length = [255, 3, UInt8.ofNat (p.toNat / 2 ^ 8), UInt8.ofNat p.toNat].length + n := by rw [List.length_append, hl]
        refine ⟨⟨A9, c9, ?_, ?_⟩, kp9⟩
        · show Value.tuple #[.slice A9 _ c9, _] = .tuple #[.slice A9 ([255, 3, UInt8.ofNat (p.toNat / 2 ^ 8), UInt8.ofNat p.toNat] ++ l).length c9, _]
          first | (rw [hlen]; done) | (rw [hlen]; rfl)
        · show Own x9 _ _ _ _ ([255, 3, UInt8.ofNat (p.toNat / 2 ^ 8), UInt8.ofNat p.toNat] ++ l).length _ _
          rw [hlen]; exact ho9
      · skip
        refine VRes.byte (N := p.toNat) (by omega) ?_
        (conv => whnf)
        refine VFill.by_ rfl ?_; (conv => whnf)
        refine ⟨fun x1 hbx hkx => ?_⟩; have hbx_lt := Blk.lt hbx; have hkx_sz := hkx.size; (conv => whnf)
        have kp := kp.keepNo hkx; have hb := hb.keepNo hkx; have hown := hown.keepNo hkx
        refine app8 (w0 := w) (ys := [UInt8.ofNat p.toNat]) kp hown (Sl.ofBlk (n := 1) (size := 1) hbx rfl) (by omega) ?_
        intro A_ c_ x2 ho2_ kp hkA_ _
        have hb := hb.keep hkA_ (fun ⟨a, ha, e⟩ => hown.type_ne ha hb (by decide) e)
        have hown := ho2_
        (conv => whnf)
        refine app8 (w0 := w) kp hown (hs.keepNo kp) (by omega) ?_
        intro A9 c9 x9 ho9 kp9 _ _
        (conv => whnf)
        have e : headP p ⟨false, true⟩ = [255, 3, UInt8.ofNat p.toNat] := by
          first
            | exact headP_lcp hp0
            | exact headP_w hp0 (.inl rfl)
            | exact headP_w hp0 (.inr (by omega))
            | exact headP_n hp0 (by omega)
        rw [hgood, e]
        have hlen : ([255, 3, UInt8.ofNat p.toNat] ++ l).length = [255, 3, UInt8.ofNat p.toNat].length + n := by rw [List.length_append, hl]
        refine ⟨⟨A9, c9, ?_, ?_⟩, kp9⟩
        · show Value.tuple #[.slice A9 _ c9, _] = .tuple #[.slice A9 ([255, 3, UInt8.ofNat p.toNat] ++ l).length c9, _]
          first | (rw [hlen]; done) | (rw [hlen]; rfl)
        · show Own x9 _ _ _ _ ([255, 3, UInt8.ofNat p.toNat] ++ l).length _ _
          rw [hlen]; exact ho9
    · skip
      refine VLoad.by_ ((hb).cell 0) ?_; (conv => whnf)
      refine VLoad.by_ ((hb).cell 1) ?_; (conv => whnf)
      refine VReq.mk (by omega) ?_
      refine VRes.shrN (N := p.toNat) (s := 8) (by omega) rfl (by decide) ?_
      (conv => whnf)
      refine VRes.byte rfl ?_
      (conv => whnf)
      refine VFill.by_ rfl ?_; (conv => whnf)
      refine ⟨fun x1 hbx hkx => ?_⟩; have hbx_lt := Blk.lt hbx; have hkx_sz := hkx.size; (conv => whnf)
      have kp := kp.keepNo hkx; have hb := hb.keepNo hkx; have hown := hown.keepNo hkx
      refine app8 (w0 := w) (ys := [UInt8.ofNat (p.toNat / 2 ^ 8)]) kp hown (Sl.ofBlk (n := 1) (size := 1) hbx rfl) (by omega) ?_
      intro A_ c_ x2 ho2_ kp hkA_ _
      have hb := hb.keep hkA_ (fun ⟨a, ha, e⟩ => hown.type_ne ha hb (by decide) e)
      have hown := ho2_
      (conv => whnf)
      refine VRes.byte (N := p.toNat) (by omega) ?_
      (conv => whnf)
      refine VFill.by_ rfl ?_; (conv => whnf)
      refine ⟨fun x1 hbx hkx => ?_⟩; have hbx_lt := Blk.lt hbx; have hkx_sz := hkx.size; (conv => whnf)
      have kp := kp.keepNo hkx; have hb := hb.keepNo hkx; have hown := hown.keepNo hkx
      refine app8 (w0 := w) (ys := [UInt8.ofNat p.toNat]) kp hown (Sl.ofBlk (n := 1) (size := 1) hbx rfl) (by omega) ?_
      intro A_ c_ x2 ho2_ kp hkA_ _
      have hb := hb.keep hkA_ (fun ⟨a, ha, e⟩ => hown.type_ne ha hb (by decide) e)
      have hown := ho2_
      (conv => whnf)
      refine app8 (w0 := w) kp hown (hs.keepNo kp) (by omega) ?_
      intro A9 c9 x9 ho9 kp9 _ _
      (conv => whnf)
      have e : headP p ⟨true, false⟩ = [UInt8.ofNat (p.toNat / 2 ^ 8), UInt8.ofNat p.toNat] := by
        first
          | exact headP_lcp hp0
          | exact headP_w hp0 (.inl rfl)
          | exact headP_w hp0 (.inr (by omega))
          | exact headP_n hp0 (by omega)
      rw [hgood, e]
      have hlen : ([UInt8.ofNat (p.toNat / 2 ^ 8), UInt8.ofNat p.toNat] ++ l).length = [UInt8.ofNat (p.toNat / 2 ^ 8), UInt8.ofNat p.toNat].length + n := by rw [List.length_append, hl]
      refine ⟨⟨A9, c9, ?_, ?_⟩, kp9⟩
      · show Value.tuple #[.slice A9 _ c9, _] = .tuple #[.slice A9 ([UInt8.ofNat (p.toNat / 2 ^ 8), UInt8.ofNat p.toNat] ++ l).length c9, _]
        first | (rw [hlen]; done) | (rw [hlen]; rfl)
      · show Own x9 _ _ _ _ ([UInt8.ofNat (p.toNat / 2 ^ 8), UInt8.ofNat p.toNat] ++ l).length _ _
        rw [hlen]; exact ho9
    · skip
      refine VLoad.by_ ((hb).cell 0) ?_; (conv => whnf)
      refine VLoad.by_ ((hb).cell 1) ?_; (conv => whnf)
      refine VCmp.mk (fun h255 => ?_) (fun h255 => ?_) <;> (conv => whnf)
      · skip
        refine VReq.mk (by omega) ?_
        refine VRes.shrN (N := p.toNat) (s := 8) (by omega) rfl (by decide) ?_
        (conv => whnf)
        refine VRes.byte rfl ?_
        (conv => whnf)
        refine VFill.by_ rfl ?_; (conv => whnf)
        refine ⟨fun x1 hbx hkx => ?_⟩; have hbx_lt := Blk.lt hbx; have hkx_sz := hkx.size; (conv => whnf)
        have kp := kp.keepNo hkx; have hb := hb.keepNo hkx; have hown := hown.keepNo hkx
        refine app8 (w0 := w) (ys := [UInt8.ofNat (p.toNat / 2 ^ 8)]) kp hown (Sl.ofBlk (n := 1) (size := 1) hbx rfl) (by omega) ?_
        intro A_ c_ x2 ho2_ kp hkA_ _
        have hb := hb.keep hkA_ (fun ⟨a, ha, e⟩ => hown.type_ne ha hb (by decide) e)
        have hown := ho2_
        (conv => whnf)
        refine VRes.byte (N := p.toNat) (by omega) ?_
        (conv => whnf)
        refine VFill.by_ rfl ?_; (conv => whnf)
        refine ⟨fun x1 hbx hkx => ?_⟩; have hbx_lt := Blk.lt hbx; have hkx_sz := hkx.size; (conv => whnf)
        have kp := kp.keepNo hkx; have hb := hb.keepNo hkx; have hown := hown.keepNo hkx
        refine app8 (w0 := w) (ys := [UInt8.ofNat p.toNat]) kp hown (Sl.ofBlk (n := 1) (size := 1) hbx rfl) (by omega) ?_
        intro A_ c_ x2 ho2_ kp hkA_ _
        have hb := hb.keep hkA_ (fun ⟨a, ha, e⟩ => hown.type_ne ha hb (by decide) e)
        have hown := ho2_
        (conv => whnf)
        refine app8 (w0 := w) kp hown (hs.keepNo kp) (by omega) ?_
        intro A9 c9 x9 ho9 kp9 _ _
        (conv => whnf)
        have e : headP p ⟨true, true⟩ = [UInt8.ofNat (p.toNat / 2 ^ 8), UInt8.ofNat p.toNat] := by
          first
            | exact headP_lcp hp0
            | exact headP_w hp0 (.inl rfl)
            | exact headP_w hp0 (.inr (by omega))
            | exact headP_n hp0 (by omega)
        rw [hgood, e]
        have hlen : ([UInt8.ofNat (p.toNat / 2 ^ 8), UInt8.ofNat p.toNat] ++ l).length = [UInt8.ofNat (p.toNat / 2 ^ 8), UInt8.ofNat p.toNat].length + n := by rw [List.length_append, hl]
        refine ⟨⟨A9, c9, ?_, ?_⟩, kp9⟩
        · show Value.tuple #[.slice A9 _ c9, _] = .tuple #[.slice A9 ([UInt8.ofNat (p.toNat / 2 ^ 8), UInt8.ofNat p.toNat] ++ l).length c9, _]
          first | (rw [hlen]; done) | (rw [hlen]; rfl)
        · show Own x9 _ _ _ _ ([UInt8.ofNat (p.toNat / 2 ^ 8), UInt8.ofNat p.toNat] ++ l).length _ _
          rw [hlen]; exact ho9
      · skip
        refine VRes.byte (N := p.toNat) (by omega) ?_
        (conv => whnf)
        refine VFill.by_ rfl ?_; (conv => whnf)
        refine ⟨fun x1 hbx hkx => ?_⟩; have hbx_lt := Blk.lt hbx; have hkx_sz := hkx.size; (conv => whnf)
        have kp := kp.keepNo hkx; have hb := hb.keepNo hkx; have hown := hown.keepNo hkx
        refine app8 (w0 := w) (ys := [UInt8.ofNat p.toNat]) kp hown (Sl.ofBlk (n := 1) (size := 1) hbx rfl) (by omega) ?_
        intro A_ c_ x2 ho2_ kp hkA_ _
        have hb := hb.keep hkA_ (fun ⟨a, ha, e⟩ => hown.type_ne ha hb (by decide) e)
        have hown := ho2_
        (conv => whnf)
        refine app8 (w0 := w) kp hown (hs.keepNo kp) (by omega) ?_
        intro A9 c9 x9 ho9 kp9 _ _
        (conv => whnf)
        have e : headP p ⟨true, true⟩ = [UInt8.ofNat p.toNat] := by
          first
            | exact headP_lcp hp0
            | exact headP_w hp0 (.inl rfl)
            | exact headP_w hp0 (.inr (by omega))
            | exact headP_n hp0 (by omega)
        rw [hgood, e]
        have hlen : ([UInt8.ofNat p.toNat] ++ l).length = [UInt8.ofNat p.toNat].length + n := by rw [List.length_append, hl]
        refine ⟨⟨A9, c9, ?_, ?_⟩, kp9⟩
        · show Value.tuple #[.slice A9 _ c9, _] = .tuple #[.slice A9 ([UInt8.ofNat p.toNat] ++ l).length c9, _]
          first | (rw [hlen]; done) | (rw [hlen]; rfl)
        · show Own x9 _ _ _ _ ([UInt8.ofNat p.toNat] ++ l).length _ _
          rw [hlen]; exact ho9
end Go.Proofs.YtpofkhjkdkkajaaDoor
