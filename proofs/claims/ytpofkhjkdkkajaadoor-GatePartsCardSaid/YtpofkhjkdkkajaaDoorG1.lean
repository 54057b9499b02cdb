/-
  Gate: what a frame shows; the program's look, the reference's seen.
-/
import Derived.Test.YtpofkhjkdkkajaaDoorF6
import Derived.Test.YtpofkhjkdkkajaaDoorP5
import Derived.Test.YtpofkhjkdkkajaaDoorR2
namespace Go.Proofs.YtpofkhjkdkkajaaDoor
open Go V
open Pk (decodeP splitP PkV OpsN Ops)

abbrev TG : TypeId := 37
abbrev TRs : TypeId := 44
abbrev TInt : TypeId := 3
abbrev TSI : TypeId := 35
def iv (k : Int) : Value := .int .i64 k
structure Sn where
  proto : Int
  code : Int
  kinds : List Int
  bytes : Int
  enc : Bool
theorem Sn.ext_ {p q : Sn} (h1 : p.proto = q.proto) (h2 : p.code = q.code) (h3 : p.kinds = q.kinds) (h4 : p.bytes = q.bytes) (h5 : p.enc = q.enc) : p = q := by cases p; cases q; simp_all
instance : DecidableEq Sn := fun p q => decidable_of_iff (p.proto = q.proto ∧ p.code = q.code ∧ p.kinds = q.kinds ∧ p.bytes = q.bytes ∧ p.enc = q.enc) ⟨fun ⟨a, b, c, d, e⟩ => Sn.ext_ a b c d e, fun h => by subst h; exact ⟨rfl, rfl, rfl, rfl, rfl⟩⟩

def nego (p : Int) : Bool := decide (p = 49185) || (decide (p = 33021) || decide (p = 32851))
def kindsP (p : Int) (l : List UInt8) : List Int :=
  if nego p = true ∧ (decodeP l).2 = 0 ∧ 1 ≤ (decodeP l).1.code ∧ (decodeP l).1.code ≤ 4 then (splitP (decodeP l).1.data).1.map (fun o => o.t) else []
def snP (p : Int) (l : List UInt8) : Sn :=
  ⟨p, if nego p = true ∨ p = 49699 then (if (decodeP l).2 = 0 then (decodeP l).1.code else -1) else 0, kindsP p l, (l.length : Nat), decide (p = 253) && (decide (0 < l.length) && decide ((l.getD 0 0).toNat &&& 16 ≠ 0))⟩

/-- One of them, as a value; its kinds in blocks of X. -/
def SnV (w : World) (X : Nat → Prop) (v : Value) (s : Sn) : Prop :=
  ∃ A c, v = .agg #[iv s.proto, iv s.code, .slice A s.kinds.length c, iv s.bytes, .bool s.enc] ∧ Sl w 1 A s.kinds.length (s.kinds.map iv) ∧ s.kinds.length ≤ c ∧ ∀ a, A = some a → X a.block
theorem SnV.mk {w : World} {X : Nat → Prop} {s : Sn} {A : Option Addr} {n c : Nat} {p code b : Int} {e : Bool} {ks : List Int} (hs : s = ⟨p, code, ks, b, e⟩) (hn : ks.length = n) (h1 : Sl w 1 A n (ks.map iv)) (h2 : n ≤ c) (h3 : ∀ a, A = some a → X a.block) :
    SnV w X (.agg #[iv p, iv code, .slice A n c, iv b, .bool e]) s := by
  subst hs; subst hn
  exact ⟨A, c, rfl, h1, h2, h3⟩

theorem Keep.own' {S : Nat → Prop} {w0 w w' : World} {e size n c : Nat} {A : Option Addr} {xs : List Value} (h0 : Keep S w0 w) (h : Own w w0.heap.size e size A n c xs) (k : Keep (ownS A) w w') : Keep S w0 w' :=
  ⟨k.os.trans h0.os, k.tape.trans h0.tape, k.output.trans h0.output, Nat.le_trans h0.size k.size, fun i hi hs => by
    rw [k.block i (Nat.lt_of_lt_of_le hi h0.size), h0.block i hi hs]
    rintro ⟨a, hA, rfl⟩
    have := (h.base_ hA).1
    omega⟩
theorem appIv {S : Nat → Prop} {w0 w : World} {ty : TypeId} {K : Value → World → Prop} {A : Option Addr} {n c : Nat} {xs : List Int} {b : Nat} {x : Int} {cs : List Value}
    (h0 : Keep S w0 w) (hown : Own w w0.heap.size TInt 1 A n c (xs.map iv)) (hb : Blk w b TInt cs) (hcs : cs = [iv x]) (hlen : n ≤ 1000000)
    (hK : ∀ A' c' w', Own w' w0.heap.size TInt 1 A' (n + 1) c' ((xs ++ [x]).map iv) → Keep S w0 w' → Keep (ownS A) w w' → K (.slice A' (n + 1) c') w') :
    VApp Tryd.prog w #[TSI, TSI] ty (.slice A n c) (.slice (some ⟨b, 0, none⟩) 1 1) K :=
  VApp.own tt_ok (it := ty35) (ei := ty3) rfl rfl rfl (size := 1) rfl rfl (by omega) hown (Sl.ofBlk (n := 1) (size := 1) (xs := [iv x]) (by rw [← hcs]; exact hb) rfl)
    (fun u hu => by obtain rfl : u = iv x := by simpa using hu
                    rfl) (by show (n + 1) * 8 ≤ _; omega) (by omega) h0.size
    fun A' c' w' h1 h2 _ => hK A' c' w' (by rw [List.map_append]; exact h1) (Keep.own' h0 hown h2) h2

theorem VRes.andb {x : UInt8} {M : Nat} {a b : Int} {K : Value → Prop} (ha : a = (x.toNat : Int)) (hb : b = (M : Int)) (hM : M < 256) (hK : K (.int .u8 ((x.toNat &&& M : Nat) : Int))) :
    VRes (.int .u8 (IntKind.wrap .u8 ((BitVec.ofInt (IntKind.bits .u8) a &&& BitVec.ofInt (IntKind.bits .u8) b).toNat : Int))) K := by
  subst ha; subst hb
  refine VRes.to (congrArg (Value.int .u8) ?_) hK
  show IntKind.wrap .u8 ((BitVec.ofInt 8 (x.toNat : Int) &&& BitVec.ofInt 8 (M : Int)).toNat : Int) = _
  have hx := x.toNat_lt
  have hle := Nat.and_le_left (n := x.toNat) (m := M)
  rw [BitVec.ofInt_natCast, BitVec.ofInt_natCast, BitVec.toNat_and, BitVec.toNat_ofNat, BitVec.toNat_ofNat, Nat.mod_eq_of_lt (by omega), Nat.mod_eq_of_lt (by omega), wrap_nat8, Nat.mod_eq_of_lt (by omega)]

theorem VIdx.op {w : World} {X : Nat → Prop} {A : Option Addr} {n : Nat} {cells : List Value} {os : List Pk.Opt} (ho : Ops w X cells os) (hs : Sl w 2 A n cells) {k : Nat} {x : Pk.Opt} (hx : os[k]? = some x) {K : Addr → Prop}
    (hK : ∀ b o, (∃ A1 c1, w.cell? ⟨b, o + k * 2, none⟩ = some (.int .i64 x.t) ∧ w.cell? ⟨b, o + k * 2 + 1, none⟩ = some (.slice A1 x.data.length c1)) → K ⟨b, o + k * 2, none⟩) : VIdx A n k 2 K := by
  obtain ⟨b, o, A1, c1, hA, hk, e0, e1, _⟩ := ho.at_ hs hx
  exact VIdx.mul k rfl hk hA (hK b o ⟨A1, c1, e0, e1⟩)

theorem decodeP_len (l : List UInt8) : (decodeP l).1.data.length ≤ 1500 := by
  unfold Pk.decodeP
  split
  · simp [Pk.Pk.zero]
  · split
    · simp [Pk.Pk.zero]
    · split
      · simp [Pk.Pk.zero]
      · split
        · simp [Pk.Pk.zero]
        · show ((l.take _).drop 4).length ≤ _
          rw [List.length_drop, List.length_take]; omega
theorem splitF_len : ∀ (f : Nat) (l : List UInt8) (acc : List Pk.Opt), acc.length ≤ 32 → (Pk.splitF f l acc).1.length ≤ 32
  | 0, l, acc, h32 => h32
  | f + 1, l, acc, h32 => by
    unfold Pk.splitF
    split
    · exact h32
    · split
      · simp
      · split
        · simp
        · exact splitF_len f _ _ (by rw [List.length_append, List.length_singleton]; omega)
theorem splitP_len (l : List UInt8) : (splitP l).1.length ≤ 32 := splitF_len _ _ _ (by simp)

theorem look_ok (w : World) (p : Int) {A : Option Addr} {n c : Nat} {l : List UInt8} (hs : Sl w 1 A n (l.map vb)) (hn : n ≤ 100000) (hnc : n ≤ c) :
    VC Tryd.prog 22 [.int .i64 p, .slice A n c] w (fun v w' => SnV w' (fun k => Ty w' k TInt) v (snP p l) ∧ Keep No w w') := by
  have hl : l.length = n := by simpa using hs.len
  refine VC.of tt_ok Tryd.func22 rfl (by decide +kernel) (Nat.le_of_ble_eq_true rfl) ?_; (conv => whnf)
  refine ⟨fun w1 hr kp => ?_⟩; have hr_lt := Blk.lt hr; have kp_sz := kp.size; (conv => whnf)
  refine VFill.by_ rfl ?_; (conv => whnf)
  refine ⟨fun w2 hb2 hk2 => ?_⟩; have hb2_lt := Blk.lt hb2; have hk2_sz := hk2.size; (conv => whnf); (refine VReq.mk ⟨rfl, (fun u hu => List.all_eq_true.mp (show List.all _ (fun u => u.oneCell') = true by rfl) u hu)⟩ ?_; (conv => whnf)); refine VStore.all hb2 rfl ?_; intro w3 hb hk3 hk3_sz; have hk3 := Keep.fresh_ hk2 hk3 (Nat.le_refl _); (conv => whnf)
  have kp := kp.keepNo hk3; have hr := hr.keepNo hk3
  have w3_lt : w1.heap.size < w3.heap.size := Blk.lt hb
  change Blk w3 w1.heap.size TG [iv p, iv 0, .slice none 0 0, iv n, .bool false] at hb
  (repeat' (first  | (refine VCmp.mk (fun h => ?_) (fun h => ?_) <;> first | (exfalso; omega) | (conv => whnf))  | (refine VRes.i64 (by omega) ?_; conv => whnf)  | (refine VReq.mk (by omega) ?_; conv => whnf)))
  rotate_left 0
  · skip
    refine (Pk.decode_ok w3 (hs.keepNo kp) (by omega) hnc).mono ?_
    rintro v w4 ⟨x, rfl, hx, hk4⟩
    have hx0 := hx
    obtain ⟨A4, n4, c4, rfl, _⟩ := hx0
    have kp := kp.keepNo hk4; have hr := hr.keepNo hk4; have hb := hb.keepNo hk4
    have hk4_sz := hk4.size
    (conv => whnf)
    refine ⟨fun w5 hb5 hk5 => ?_⟩; have hb5_lt := Blk.lt hb5; have hk5_sz := hk5.size; (conv => whnf); (refine VReq.mk ⟨rfl, (fun u hu => List.all_eq_true.mp (show List.all _ (fun u => u.oneCell') = true by rfl) u hu)⟩ ?_; (conv => whnf)); refine VStore.all hb5 rfl ?_; intro w6 hb6 hk6 hk6_sz; have hk6 := Keep.fresh_ hk5 hk6 (Nat.le_refl _); (conv => whnf)
    have kp := kp.keepNo hk6; have hr := hr.keepNo hk6; have hb := hb.keepNo hk6; have hx := hx.keepNo hk6
    refine VCmp.mk (fun h0 => ?_) (fun h0 => ?_) <;> (conv => whnf)
    · have hsn : snP p l = ⟨p, -1, [], (n : Nat), false⟩ := by
        refine Sn.ext_ rfl ?_ ?_ (by show ((l.length : Nat) : Int) = n; rw [hl]) ?_
        · show (if _ then _ else _) = _
          rw [if_pos (by first | exact .inl (by simp [nego]; omega) | exact .inr (by omega)), if_neg h0]
        · show kindsP p l = []
          unfold kindsP
          rw [if_neg (fun h => h0 h.2.1)]
        · show (decide (p = 253) && _) = _
          rw [decide_eq_false (by omega)]; rfl
      refine VStore.one hb (Nat.le_of_ble_eq_true rfl) ?_
      intro w7 hb hk7 hk7_sz
      have hr := hr.keep hk7 (by omega)
      have kp := kp.fresh_ hk7 (by omega)
      (conv => whnf)
      refine VLoads.blk hb rfl ?_
      (conv => whnf)
      (refine VReq.mk ⟨rfl, (fun u hu => List.all_eq_true.mp (show List.all _ (fun u => u.oneCell') = true by rfl) u hu)⟩ ?_; (conv => whnf))
      refine VStore.all hr rfl ?_
      intro w8 hr8 hk8 hk8_sz
      have kp := kp.fresh_ hk8 (Nat.le_refl _)
      (conv => whnf)
      refine VLoads.blk hr8 rfl ?_
      (conv => whnf)
      exact ⟨SnV.mk (ks := []) (hsn) rfl (Sl.nil) (Nat.le_refl _) (fun a ha => by cases ha), kp⟩
    have h0 : (decodeP l).2 = 0 := by omega
    refine VLoad.by_ ((hb6).cell 0) ?_; (conv => whnf)
    refine VStore.one hb (Nat.le_of_ble_eq_true rfl) ?_
    intro w7 hb hk7 hk7_sz
    have hr := hr.keep hk7 (by omega)
    have hb6 := hb6.keep hk7 (by omega)
    have kp := kp.fresh_ hk7 (by omega)
    have hx := hx.keepLo hk7 (by omega)
    (conv => whnf)
    refine VLoad.by_ ((hb6).cell 0) ?_; (conv => whnf)
    refine VCmp.mk (fun h1 => ?_) (fun h1 => ?_) <;> (conv => whnf)
    rotate_left 1
    · skip
      have hsn : snP p l = ⟨p, (decodeP l).1.code, [], (n : Nat), false⟩ := by
        refine Sn.ext_ rfl ?_ ?_ (by show ((l.length : Nat) : Int) = n; rw [hl]) ?_
        · show (if _ then _ else _) = _
          rw [if_pos (by first | exact .inl (by simp [nego]; omega) | exact .inr (by omega)), if_pos h0]
        · show kindsP p l = []
          unfold kindsP
          rw [if_neg (by first | exact (fun h => by have := h.2.2.1; have := h.2.2.2; omega) | exact (fun h => by have := h.1; simp [nego] at this; omega))]
        · show (decide (p = 253) && _) = _
          rw [decide_eq_false (by omega)]; rfl
      refine VLoads.blk hb rfl ?_
      (conv => whnf)
      (refine VReq.mk ⟨rfl, (fun u hu => List.all_eq_true.mp (show List.all _ (fun u => u.oneCell') = true by rfl) u hu)⟩ ?_; (conv => whnf))
      refine VStore.all hr rfl ?_
      intro w8 hr8 hk8 hk8_sz
      have kp := kp.fresh_ hk8 (Nat.le_refl _)
      (conv => whnf)
      refine VLoads.blk hr8 rfl ?_
      (conv => whnf)
      exact ⟨SnV.mk (ks := []) (hsn) rfl (Sl.nil) (Nat.le_refl _) (fun a ha => by cases ha), kp⟩
    refine VLoad.by_ ((hb6).cell 0) ?_; (conv => whnf)
    refine VCmp.mk (fun h2 => ?_) (fun h2 => ?_) <;> (conv => whnf)
    rotate_left 1
    · skip
      have hsn : snP p l = ⟨p, (decodeP l).1.code, [], (n : Nat), false⟩ := by
        refine Sn.ext_ rfl ?_ ?_ (by show ((l.length : Nat) : Int) = n; rw [hl]) ?_
        · show (if _ then _ else _) = _
          rw [if_pos (by first | exact .inl (by simp [nego]; omega) | exact .inr (by omega)), if_pos h0]
        · show kindsP p l = []
          unfold kindsP
          rw [if_neg (by first | exact (fun h => by have := h.2.2.1; have := h.2.2.2; omega) | exact (fun h => by have := h.1; simp [nego] at this; omega))]
        · show (decide (p = 253) && _) = _
          rw [decide_eq_false (by omega)]; rfl
      refine VLoads.blk hb rfl ?_
      (conv => whnf)
      (refine VReq.mk ⟨rfl, (fun u hu => List.all_eq_true.mp (show List.all _ (fun u => u.oneCell') = true by rfl) u hu)⟩ ?_; (conv => whnf))
      refine VStore.all hr rfl ?_
      intro w8 hr8 hk8 hk8_sz
      have kp := kp.fresh_ hk8 (Nat.le_refl _)
      (conv => whnf)
      refine VLoads.blk hr8 rfl ?_
      (conv => whnf)
      exact ⟨SnV.mk (ks := []) (hsn) rfl (Sl.nil) (Nat.le_refl _) (fun a ha => by cases ha), kp⟩
    refine VLoad.by_ ((hb6).cell 2) ?_; (conv => whnf)
    obtain ⟨A4', n4', c4', e4, hs4, hc4, hb4⟩ := hx
    cases e4
    have hdl := decodeP_len l
    have hl4 : (decodeP l).1.data.length = n4 := by simpa using hs4.len
    refine (Pk.Split_ok w7 hs4 (by omega) hc4).mono ?_
    rintro v w8 ⟨⟨A9, n9, c9, ce9, rfl, hs9, hp9, hc9, hb9⟩, hk9⟩
    have hk9_sz := hk9.size
    have kp := kp.keepNo hk9; have hr := hr.keepNo hk9; have hb := hb.keepNo hk9
    have hspl := splitP_len (decodeP l).1.data
    have hn9 := hp9.len hs9
    (conv => whnf)
    have kds : ∀ k x, (splitP (decodeP l).1.data).1[k]? = some x → (((splitP (decodeP l).1.data).1.take (k + 1)).map fun o => o.t) = (((splitP (decodeP l).1.data).1.take k).map fun o => o.t) ++ [x.t] := fun k x hx => by
      rw [List.take_add_one, hx]; simp
    refine VLoop.by_ tt_ok (S := Nat × Option Addr × Nat) (fun | (k, _, _) => [(4, .pointer (some ⟨w.heap.size, 0, none⟩)), (5, .pointer (some ⟨w1.heap.size, 0, none⟩)), (54, .slice A9 n9 c9), (55, .int .i64 n9), (56, .int .i64 k)])
      (fun | (k, A', c') => fun w' => k ≤ n9 ∧ Blk w' w1.heap.size TG [iv p, iv (decodeP l).1.code, .slice A' k c', iv n, .bool false] ∧ Own w' w8.heap.size TInt 1 A' k c' ((((splitP (decodeP l).1.data).1.take k).map fun o => o.t).map iv) ∧ Keep (fun k => k = w1.heap.size) w8 w') (fun | (k, _, _) => n9 - k)
      (0, none, 0) ⟨rfl, rfl, rfl, rfl, rfl, trivial⟩ ⟨by omega, hb, Own.nil _ _ _ _, Keep.refl _ _⟩ ?_
    rintro ⟨k, A', c'⟩ wq ⟨hk, hb, hown, kq⟩
    have kp8 := kp
    have kp := kp.toNo kq (fun i e => by have e : i = w1.heap.size := e; omega)
    have hr := hr.keep kq (by omega)
    have kq_sz := kq.size
    (conv => whnf)
    refine VCmp.mk (fun h3 => ?_) (fun h3 => ?_) <;> (conv => whnf)
    rotate_left 1
    · obtain rfl : k = n9 := by omega
      rw [List.take_of_length_le (by omega)] at hown
      have hsn : snP p l = ⟨p, (decodeP l).1.code, (splitP (decodeP l).1.data).1.map (fun o => o.t), (n : Nat), false⟩ := by
        refine Sn.ext_ rfl ?_ ?_ (by show ((l.length : Nat) : Int) = n; rw [hl]) ?_
        · show (if _ then _ else _) = _
          rw [if_pos (.inl (by simp [nego]; omega)), if_pos h0]
        · show kindsP p l = _
          unfold kindsP
          rw [if_pos ⟨by simp [nego]; omega, h0, h1, h2⟩]
        · show (decide (p = 253) && _) = _
          rw [decide_eq_false (by omega)]; rfl
      refine VLoads.blk hb rfl ?_
      (conv => whnf)
      (refine VReq.mk ⟨rfl, (fun u hu => List.all_eq_true.mp (show List.all _ (fun u => u.oneCell') = true by rfl) u hu)⟩ ?_; (conv => whnf))
      refine VStore.all hr rfl ?_
      intro w8 hr8 hk8 hk8_sz
      have kp := kp.fresh_ hk8 (Nat.le_refl _)
      have ho9 := hown.keep hk8 (fun a ha e => by have := (hown.type_ne ha hr (by decide)); exact this e)
      (conv => whnf)
      refine VLoads.blk hr8 rfl ?_
      (conv => whnf)
      exact ⟨SnV.mk (ks := (splitP (decodeP l).1.data).1.map (fun o => o.t)) (hsn) (by rw [List.length_map]; exact hn9) (Sl.ofOwn ho9) (ho9.le) (fun a ha => ho9.ty ha), kp⟩
    obtain ⟨y, hy⟩ : ∃ y, (splitP (decodeP l).1.data).1[k]? = some y := ⟨_, List.getElem?_eq_getElem (by omega)⟩
    obtain ⟨b, o, A1, c1, hA, hkn, e0, e1, _⟩ := hp9.at_ hs9 hy
    have hbb : ¬ b = w1.heap.size := by have := hb9 _ hA; dsimp only at this; omega
    have e0 := kq.cell e0 hbb
    have e1 := kq.cell e1 hbb
    refine VIdx.mul k rfl (by omega) hA ?_
    (conv => whnf)
    refine VLoads.two e0 e1 ?_
    (conv => whnf)
    refine ⟨fun wa hba hka => ?_⟩; have hba_lt := Blk.lt hba; have hka_sz := hka.size; (conv => whnf); (refine VReq.mk ⟨rfl, (fun u hu => List.all_eq_true.mp (show List.all _ (fun u => u.oneCell') = true by rfl) u hu)⟩ ?_; (conv => whnf)); refine VStore.all hba rfl ?_; intro wb hbb2 hkb hkb_sz; have hkb := Keep.fresh_ hka hkb (Nat.le_refl _); (conv => whnf)
    have kp := kp.keepNo hkb; have hb := hb.keepNo hkb; have hown := hown.keepNo hkb; have kq := kq.keepNo hkb
    refine VLoad.by_ ((hb).cell 2) ?_; (conv => whnf)
    refine VLoad.by_ ((hbb2).cell 0) ?_; (conv => whnf)
    refine VFill.by_ rfl ?_; (conv => whnf)
    refine ⟨fun wc hbc hkc => ?_⟩; have hbc_lt := Blk.lt hbc; have hkc_sz := hkc.size; (conv => whnf)
    have kp := kp.keepNo hkc; have hb := hb.keepNo hkc; have hown := hown.keepNo hkc; have kq := kq.keepNo hkc
    refine appIv kq hown hbc rfl (by omega) ?_
    intro A2 c2 wd2 ho2 kq2 hkA
    have hb := hb.keep hkA (fun ⟨a, ha, e⟩ => hown.type_ne ha hb (by decide) e)
    (conv => whnf)
    refine VStore.one hb (Nat.le_of_ble_eq_true rfl) ?_
    intro we hb hke hke_sz
    have ho3 := ho2.keep hke (fun a ha e => by have e : a.block = w1.heap.size := e; have := (ho2.base_ ha).1; omega)
    have kq3 := kq2.trans hke
    (conv => whnf)
    refine VRes.i64 (by omega) ?_; (conv => whnf)
    exact ⟨(k + 1, A2, c2), ⟨rfl, rfl, rfl, rfl, rfl, trivial⟩, ⟨by omega, hb, by rw [kds k y hy]; exact ho3, kq3⟩, by dsimp only; omega⟩
  · skip
    refine (Pk.decode_ok w3 (hs.keepNo kp) (by omega) hnc).mono ?_
    rintro v w4 ⟨x, rfl, hx, hk4⟩
    have hx0 := hx
    obtain ⟨A4, n4, c4, rfl, _⟩ := hx0
    have kp := kp.keepNo hk4; have hr := hr.keepNo hk4; have hb := hb.keepNo hk4
    have hk4_sz := hk4.size
    (conv => whnf)
    refine ⟨fun w5 hb5 hk5 => ?_⟩; have hb5_lt := Blk.lt hb5; have hk5_sz := hk5.size; (conv => whnf); (refine VReq.mk ⟨rfl, (fun u hu => List.all_eq_true.mp (show List.all _ (fun u => u.oneCell') = true by rfl) u hu)⟩ ?_; (conv => whnf)); refine VStore.all hb5 rfl ?_; intro w6 hb6 hk6 hk6_sz; have hk6 := Keep.fresh_ hk5 hk6 (Nat.le_refl _); (conv => whnf)
    have kp := kp.keepNo hk6; have hr := hr.keepNo hk6; have hb := hb.keepNo hk6; have hx := hx.keepNo hk6
    refine VCmp.mk (fun h0 => ?_) (fun h0 => ?_) <;> (conv => whnf)
    · have hsn : snP p l = ⟨p, -1, [], (n : Nat), false⟩ := by
        refine Sn.ext_ rfl ?_ ?_ (by show ((l.length : Nat) : Int) = n; rw [hl]) ?_
        · show (if _ then _ else _) = _
          rw [if_pos (by first | exact .inl (by simp [nego]; omega) | exact .inr (by omega)), if_neg h0]
        · show kindsP p l = []
          unfold kindsP
          rw [if_neg (fun h => h0 h.2.1)]
        · show (decide (p = 253) && _) = _
          rw [decide_eq_false (by omega)]; rfl
      refine VStore.one hb (Nat.le_of_ble_eq_true rfl) ?_
      intro w7 hb hk7 hk7_sz
      have hr := hr.keep hk7 (by omega)
      have kp := kp.fresh_ hk7 (by omega)
      (conv => whnf)
      refine VLoads.blk hb rfl ?_
      (conv => whnf)
      (refine VReq.mk ⟨rfl, (fun u hu => List.all_eq_true.mp (show List.all _ (fun u => u.oneCell') = true by rfl) u hu)⟩ ?_; (conv => whnf))
      refine VStore.all hr rfl ?_
      intro w8 hr8 hk8 hk8_sz
      have kp := kp.fresh_ hk8 (Nat.le_refl _)
      (conv => whnf)
      refine VLoads.blk hr8 rfl ?_
      (conv => whnf)
      exact ⟨SnV.mk (ks := []) (hsn) rfl (Sl.nil) (Nat.le_refl _) (fun a ha => by cases ha), kp⟩
    have h0 : (decodeP l).2 = 0 := by omega
    refine VLoad.by_ ((hb6).cell 0) ?_; (conv => whnf)
    refine VStore.one hb (Nat.le_of_ble_eq_true rfl) ?_
    intro w7 hb hk7 hk7_sz
    have hr := hr.keep hk7 (by omega)
    have hb6 := hb6.keep hk7 (by omega)
    have kp := kp.fresh_ hk7 (by omega)
    have hx := hx.keepLo hk7 (by omega)
    (conv => whnf)
    refine VLoad.by_ ((hb6).cell 0) ?_; (conv => whnf)
    refine VCmp.mk (fun h1 => ?_) (fun h1 => ?_) <;> (conv => whnf)
    rotate_left 1
    · skip
      have hsn : snP p l = ⟨p, (decodeP l).1.code, [], (n : Nat), false⟩ := by
        refine Sn.ext_ rfl ?_ ?_ (by show ((l.length : Nat) : Int) = n; rw [hl]) ?_
        · show (if _ then _ else _) = _
          rw [if_pos (by first | exact .inl (by simp [nego]; omega) | exact .inr (by omega)), if_pos h0]
        · show kindsP p l = []
          unfold kindsP
          rw [if_neg (by first | exact (fun h => by have := h.2.2.1; have := h.2.2.2; omega) | exact (fun h => by have := h.1; simp [nego] at this; omega))]
        · show (decide (p = 253) && _) = _
          rw [decide_eq_false (by omega)]; rfl
      refine VLoads.blk hb rfl ?_
      (conv => whnf)
      (refine VReq.mk ⟨rfl, (fun u hu => List.all_eq_true.mp (show List.all _ (fun u => u.oneCell') = true by rfl) u hu)⟩ ?_; (conv => whnf))
      refine VStore.all hr rfl ?_
      intro w8 hr8 hk8 hk8_sz
      have kp := kp.fresh_ hk8 (Nat.le_refl _)
      (conv => whnf)
      refine VLoads.blk hr8 rfl ?_
      (conv => whnf)
      exact ⟨SnV.mk (ks := []) (hsn) rfl (Sl.nil) (Nat.le_refl _) (fun a ha => by cases ha), kp⟩
    refine VLoad.by_ ((hb6).cell 0) ?_; (conv => whnf)
    refine VCmp.mk (fun h2 => ?_) (fun h2 => ?_) <;> (conv => whnf)
    rotate_left 1
    · skip
      have hsn : snP p l = ⟨p, (decodeP l).1.code, [], (n : Nat), false⟩ := by
        refine Sn.ext_ rfl ?_ ?_ (by show ((l.length : Nat) : Int) = n; rw [hl]) ?_
        · show (if _ then _ else _) = _
          rw [if_pos (by first | exact .inl (by simp [nego]; omega) | exact .inr (by omega)), if_pos h0]
        · show kindsP p l = []
          unfold kindsP
          rw [if_neg (by first | exact (fun h => by have := h.2.2.1; have := h.2.2.2; omega) | exact (fun h => by have := h.1; simp [nego] at this; omega))]
        · show (decide (p = 253) && _) = _
          rw [decide_eq_false (by omega)]; rfl
      refine VLoads.blk hb rfl ?_
      (conv => whnf)
      (refine VReq.mk ⟨rfl, (fun u hu => List.all_eq_true.mp (show List.all _ (fun u => u.oneCell') = true by rfl) u hu)⟩ ?_; (conv => whnf))
      refine VStore.all hr rfl ?_
      intro w8 hr8 hk8 hk8_sz
      have kp := kp.fresh_ hk8 (Nat.le_refl _)
      (conv => whnf)
      refine VLoads.blk hr8 rfl ?_
      (conv => whnf)
      exact ⟨SnV.mk (ks := []) (hsn) rfl (Sl.nil) (Nat.le_refl _) (fun a ha => by cases ha), kp⟩
    refine VLoad.by_ ((hb6).cell 2) ?_; (conv => whnf)
    obtain ⟨A4', n4', c4', e4, hs4, hc4, hb4⟩ := hx
    cases e4
    have hdl := decodeP_len l
    have hl4 : (decodeP l).1.data.length = n4 := by simpa using hs4.len
    refine (Pk.Split_ok w7 hs4 (by omega) hc4).mono ?_
    rintro v w8 ⟨⟨A9, n9, c9, ce9, rfl, hs9, hp9, hc9, hb9⟩, hk9⟩
    have hk9_sz := hk9.size
    have kp := kp.keepNo hk9; have hr := hr.keepNo hk9; have hb := hb.keepNo hk9
    have hspl := splitP_len (decodeP l).1.data
    have hn9 := hp9.len hs9
    (conv => whnf)
    have kds : ∀ k x, (splitP (decodeP l).1.data).1[k]? = some x → (((splitP (decodeP l).1.data).1.take (k + 1)).map fun o => o.t) = (((splitP (decodeP l).1.data).1.take k).map fun o => o.t) ++ [x.t] := fun k x hx => by
      rw [List.take_add_one, hx]; simp
    refine VLoop.by_ tt_ok (S := Nat × Option Addr × Nat) (fun | (k, _, _) => [(4, .pointer (some ⟨w.heap.size, 0, none⟩)), (5, .pointer (some ⟨w1.heap.size, 0, none⟩)), (54, .slice A9 n9 c9), (55, .int .i64 n9), (56, .int .i64 k)])
      (fun | (k, A', c') => fun w' => k ≤ n9 ∧ Blk w' w1.heap.size TG [iv p, iv (decodeP l).1.code, .slice A' k c', iv n, .bool false] ∧ Own w' w8.heap.size TInt 1 A' k c' ((((splitP (decodeP l).1.data).1.take k).map fun o => o.t).map iv) ∧ Keep (fun k => k = w1.heap.size) w8 w') (fun | (k, _, _) => n9 - k)
      (0, none, 0) ⟨rfl, rfl, rfl, rfl, rfl, trivial⟩ ⟨by omega, hb, Own.nil _ _ _ _, Keep.refl _ _⟩ ?_
    rintro ⟨k, A', c'⟩ wq ⟨hk, hb, hown, kq⟩
    have kp8 := kp
    have kp := kp.toNo kq (fun i e => by have e : i = w1.heap.size := e; omega)
    have hr := hr.keep kq (by omega)
    have kq_sz := kq.size
    (conv => whnf)
    refine VCmp.mk (fun h3 => ?_) (fun h3 => ?_) <;> (conv => whnf)
    rotate_left 1
    · obtain rfl : k = n9 := by omega
      rw [List.take_of_length_le (by omega)] at hown
      have hsn : snP p l = ⟨p, (decodeP l).1.code, (splitP (decodeP l).1.data).1.map (fun o => o.t), (n : Nat), false⟩ := by
        refine Sn.ext_ rfl ?_ ?_ (by show ((l.length : Nat) : Int) = n; rw [hl]) ?_
        · show (if _ then _ else _) = _
          rw [if_pos (.inl (by simp [nego]; omega)), if_pos h0]
        · show kindsP p l = _
          unfold kindsP
          rw [if_pos ⟨by simp [nego]; omega, h0, h1, h2⟩]
        · show (decide (p = 253) && _) = _
          rw [decide_eq_false (by omega)]; rfl
      refine VLoads.blk hb rfl ?_
      (conv => whnf)
      (refine VReq.mk ⟨rfl, (fun u hu => List.all_eq_true.mp (show List.all _ (fun u => u.oneCell') = true by rfl) u hu)⟩ ?_; (conv => whnf))
      refine VStore.all hr rfl ?_
      intro w8 hr8 hk8 hk8_sz
      have kp := kp.fresh_ hk8 (Nat.le_refl _)
      have ho9 := hown.keep hk8 (fun a ha e => by have := (hown.type_ne ha hr (by decide)); exact this e)
      (conv => whnf)
      refine VLoads.blk hr8 rfl ?_
      (conv => whnf)
      exact ⟨SnV.mk (ks := (splitP (decodeP l).1.data).1.map (fun o => o.t)) (hsn) (by rw [List.length_map]; exact hn9) (Sl.ofOwn ho9) (ho9.le) (fun a ha => ho9.ty ha), kp⟩
    obtain ⟨y, hy⟩ : ∃ y, (splitP (decodeP l).1.data).1[k]? = some y := ⟨_, List.getElem?_eq_getElem (by omega)⟩
    obtain ⟨b, o, A1, c1, hA, hkn, e0, e1, _⟩ := hp9.at_ hs9 hy
    have hbb : ¬ b = w1.heap.size := by have := hb9 _ hA; dsimp only at this; omega
    have e0 := kq.cell e0 hbb
    have e1 := kq.cell e1 hbb
    refine VIdx.mul k rfl (by omega) hA ?_
    (conv => whnf)
    refine VLoads.two e0 e1 ?_
    (conv => whnf)
    refine ⟨fun wa hba hka => ?_⟩; have hba_lt := Blk.lt hba; have hka_sz := hka.size; (conv => whnf); (refine VReq.mk ⟨rfl, (fun u hu => List.all_eq_true.mp (show List.all _ (fun u => u.oneCell') = true by rfl) u hu)⟩ ?_; (conv => whnf)); refine VStore.all hba rfl ?_; intro wb hbb2 hkb hkb_sz; have hkb := Keep.fresh_ hka hkb (Nat.le_refl _); (conv => whnf)
    have kp := kp.keepNo hkb; have hb := hb.keepNo hkb; have hown := hown.keepNo hkb; have kq := kq.keepNo hkb
    refine VLoad.by_ ((hb).cell 2) ?_; (conv => whnf)
    refine VLoad.by_ ((hbb2).cell 0) ?_; (conv => whnf)
    refine VFill.by_ rfl ?_; (conv => whnf)
    refine ⟨fun wc hbc hkc => ?_⟩; have hbc_lt := Blk.lt hbc; have hkc_sz := hkc.size; (conv => whnf)
    have kp := kp.keepNo hkc; have hb := hb.keepNo hkc; have hown := hown.keepNo hkc; have kq := kq.keepNo hkc
    refine appIv kq hown hbc rfl (by omega) ?_
    intro A2 c2 wd2 ho2 kq2 hkA
    have hb := hb.keep hkA (fun ⟨a, ha, e⟩ => hown.type_ne ha hb (by decide) e)
    (conv => whnf)
    refine VStore.one hb (Nat.le_of_ble_eq_true rfl) ?_
    intro we hb hke hke_sz
    have ho3 := ho2.keep hke (fun a ha e => by have e : a.block = w1.heap.size := e; have := (ho2.base_ ha).1; omega)
    have kq3 := kq2.trans hke
    (conv => whnf)
    refine VRes.i64 (by omega) ?_; (conv => whnf)
    exact ⟨(k + 1, A2, c2), ⟨rfl, rfl, rfl, rfl, rfl, trivial⟩, ⟨by omega, hb, by rw [kds k y hy]; exact ho3, kq3⟩, by dsimp only; omega⟩
  · skip
    refine (Pk.decode_ok w3 (hs.keepNo kp) (by omega) hnc).mono ?_
    rintro v w4 ⟨x, rfl, hx, hk4⟩
    have hx0 := hx
    obtain ⟨A4, n4, c4, rfl, _⟩ := hx0
    have kp := kp.keepNo hk4; have hr := hr.keepNo hk4; have hb := hb.keepNo hk4
    have hk4_sz := hk4.size
    (conv => whnf)
    refine ⟨fun w5 hb5 hk5 => ?_⟩; have hb5_lt := Blk.lt hb5; have hk5_sz := hk5.size; (conv => whnf); (refine VReq.mk ⟨rfl, (fun u hu => List.all_eq_true.mp (show List.all _ (fun u => u.oneCell') = true by rfl) u hu)⟩ ?_; (conv => whnf)); refine VStore.all hb5 rfl ?_; intro w6 hb6 hk6 hk6_sz; have hk6 := Keep.fresh_ hk5 hk6 (Nat.le_refl _); (conv => whnf)
    have kp := kp.keepNo hk6; have hr := hr.keepNo hk6; have hb := hb.keepNo hk6; have hx := hx.keepNo hk6
    refine VCmp.mk (fun h0 => ?_) (fun h0 => ?_) <;> (conv => whnf)
    · have hsn : snP p l = ⟨p, -1, [], (n : Nat), false⟩ := by
        refine Sn.ext_ rfl ?_ ?_ (by show ((l.length : Nat) : Int) = n; rw [hl]) ?_
        · show (if _ then _ else _) = _
          rw [if_pos (by first | exact .inl (by simp [nego]; omega) | exact .inr (by omega)), if_neg h0]
        · show kindsP p l = []
          unfold kindsP
          rw [if_neg (fun h => h0 h.2.1)]
        · show (decide (p = 253) && _) = _
          rw [decide_eq_false (by omega)]; rfl
      refine VStore.one hb (Nat.le_of_ble_eq_true rfl) ?_
      intro w7 hb hk7 hk7_sz
      have hr := hr.keep hk7 (by omega)
      have kp := kp.fresh_ hk7 (by omega)
      (conv => whnf)
      refine VLoads.blk hb rfl ?_
      (conv => whnf)
      (refine VReq.mk ⟨rfl, (fun u hu => List.all_eq_true.mp (show List.all _ (fun u => u.oneCell') = true by rfl) u hu)⟩ ?_; (conv => whnf))
      refine VStore.all hr rfl ?_
      intro w8 hr8 hk8 hk8_sz
      have kp := kp.fresh_ hk8 (Nat.le_refl _)
      (conv => whnf)
      refine VLoads.blk hr8 rfl ?_
      (conv => whnf)
      exact ⟨SnV.mk (ks := []) (hsn) rfl (Sl.nil) (Nat.le_refl _) (fun a ha => by cases ha), kp⟩
    have h0 : (decodeP l).2 = 0 := by omega
    refine VLoad.by_ ((hb6).cell 0) ?_; (conv => whnf)
    refine VStore.one hb (Nat.le_of_ble_eq_true rfl) ?_
    intro w7 hb hk7 hk7_sz
    have hr := hr.keep hk7 (by omega)
    have hb6 := hb6.keep hk7 (by omega)
    have kp := kp.fresh_ hk7 (by omega)
    have hx := hx.keepLo hk7 (by omega)
    (conv => whnf)
    refine VLoad.by_ ((hb6).cell 0) ?_; (conv => whnf)
    refine VCmp.mk (fun h1 => ?_) (fun h1 => ?_) <;> (conv => whnf)
    rotate_left 1
    · skip
      have hsn : snP p l = ⟨p, (decodeP l).1.code, [], (n : Nat), false⟩ := by
        refine Sn.ext_ rfl ?_ ?_ (by show ((l.length : Nat) : Int) = n; rw [hl]) ?_
        · show (if _ then _ else _) = _
          rw [if_pos (by first | exact .inl (by simp [nego]; omega) | exact .inr (by omega)), if_pos h0]
        · show kindsP p l = []
          unfold kindsP
          rw [if_neg (by first | exact (fun h => by have := h.2.2.1; have := h.2.2.2; omega) | exact (fun h => by have := h.1; simp [nego] at this; omega))]
        · show (decide (p = 253) && _) = _
          rw [decide_eq_false (by omega)]; rfl
      refine VLoads.blk hb rfl ?_
      (conv => whnf)
      (refine VReq.mk ⟨rfl, (fun u hu => List.all_eq_true.mp (show List.all _ (fun u => u.oneCell') = true by rfl) u hu)⟩ ?_; (conv => whnf))
      refine VStore.all hr rfl ?_
      intro w8 hr8 hk8 hk8_sz
      have kp := kp.fresh_ hk8 (Nat.le_refl _)
      (conv => whnf)
      refine VLoads.blk hr8 rfl ?_
      (conv => whnf)
      exact ⟨SnV.mk (ks := []) (hsn) rfl (Sl.nil) (Nat.le_refl _) (fun a ha => by cases ha), kp⟩
    refine VLoad.by_ ((hb6).cell 0) ?_; (conv => whnf)
    refine VCmp.mk (fun h2 => ?_) (fun h2 => ?_) <;> (conv => whnf)
    rotate_left 1
    · skip
      have hsn : snP p l = ⟨p, (decodeP l).1.code, [], (n : Nat), false⟩ := by
        refine Sn.ext_ rfl ?_ ?_ (by show ((l.length : Nat) : Int) = n; rw [hl]) ?_
        · show (if _ then _ else _) = _
          rw [if_pos (by first | exact .inl (by simp [nego]; omega) | exact .inr (by omega)), if_pos h0]
        · show kindsP p l = []
          unfold kindsP
          rw [if_neg (by first | exact (fun h => by have := h.2.2.1; have := h.2.2.2; omega) | exact (fun h => by have := h.1; simp [nego] at this; omega))]
        · show (decide (p = 253) && _) = _
          rw [decide_eq_false (by omega)]; rfl
      refine VLoads.blk hb rfl ?_
      (conv => whnf)
      (refine VReq.mk ⟨rfl, (fun u hu => List.all_eq_true.mp (show List.all _ (fun u => u.oneCell') = true by rfl) u hu)⟩ ?_; (conv => whnf))
      refine VStore.all hr rfl ?_
      intro w8 hr8 hk8 hk8_sz
      have kp := kp.fresh_ hk8 (Nat.le_refl _)
      (conv => whnf)
      refine VLoads.blk hr8 rfl ?_
      (conv => whnf)
      exact ⟨SnV.mk (ks := []) (hsn) rfl (Sl.nil) (Nat.le_refl _) (fun a ha => by cases ha), kp⟩
    refine VLoad.by_ ((hb6).cell 2) ?_; (conv => whnf)
    obtain ⟨A4', n4', c4', e4, hs4, hc4, hb4⟩ := hx
    cases e4
    have hdl := decodeP_len l
    have hl4 : (decodeP l).1.data.length = n4 := by simpa using hs4.len
    refine (Pk.Split_ok w7 hs4 (by omega) hc4).mono ?_
    rintro v w8 ⟨⟨A9, n9, c9, ce9, rfl, hs9, hp9, hc9, hb9⟩, hk9⟩
    have hk9_sz := hk9.size
    have kp := kp.keepNo hk9; have hr := hr.keepNo hk9; have hb := hb.keepNo hk9
    have hspl := splitP_len (decodeP l).1.data
    have hn9 := hp9.len hs9
    (conv => whnf)
    have kds : ∀ k x, (splitP (decodeP l).1.data).1[k]? = some x → (((splitP (decodeP l).1.data).1.take (k + 1)).map fun o => o.t) = (((splitP (decodeP l).1.data).1.take k).map fun o => o.t) ++ [x.t] := fun k x hx => by
      rw [List.take_add_one, hx]; simp
    refine VLoop.by_ tt_ok (S := Nat × Option Addr × Nat) (fun | (k, _, _) => [(4, .pointer (some ⟨w.heap.size, 0, none⟩)), (5, .pointer (some ⟨w1.heap.size, 0, none⟩)), (54, .slice A9 n9 c9), (55, .int .i64 n9), (56, .int .i64 k)])
      (fun | (k, A', c') => fun w' => k ≤ n9 ∧ Blk w' w1.heap.size TG [iv p, iv (decodeP l).1.code, .slice A' k c', iv n, .bool false] ∧ Own w' w8.heap.size TInt 1 A' k c' ((((splitP (decodeP l).1.data).1.take k).map fun o => o.t).map iv) ∧ Keep (fun k => k = w1.heap.size) w8 w') (fun | (k, _, _) => n9 - k)
      (0, none, 0) ⟨rfl, rfl, rfl, rfl, rfl, trivial⟩ ⟨by omega, hb, Own.nil _ _ _ _, Keep.refl _ _⟩ ?_
    rintro ⟨k, A', c'⟩ wq ⟨hk, hb, hown, kq⟩
    have kp8 := kp
    have kp := kp.toNo kq (fun i e => by have e : i = w1.heap.size := e; omega)
    have hr := hr.keep kq (by omega)
    have kq_sz := kq.size
    (conv => whnf)
    refine VCmp.mk (fun h3 => ?_) (fun h3 => ?_) <;> (conv => whnf)
    rotate_left 1
    · obtain rfl : k = n9 := by omega
      rw [List.take_of_length_le (by omega)] at hown
      have hsn : snP p l = ⟨p, (decodeP l).1.code, (splitP (decodeP l).1.data).1.map (fun o => o.t), (n : Nat), false⟩ := by
        refine Sn.ext_ rfl ?_ ?_ (by show ((l.length : Nat) : Int) = n; rw [hl]) ?_
        · show (if _ then _ else _) = _
          rw [if_pos (.inl (by simp [nego]; omega)), if_pos h0]
        · show kindsP p l = _
          unfold kindsP
          rw [if_pos ⟨by simp [nego]; omega, h0, h1, h2⟩]
        · show (decide (p = 253) && _) = _
          rw [decide_eq_false (by omega)]; rfl
      refine VLoads.blk hb rfl ?_
      (conv => whnf)
      (refine VReq.mk ⟨rfl, (fun u hu => List.all_eq_true.mp (show List.all _ (fun u => u.oneCell') = true by rfl) u hu)⟩ ?_; (conv => whnf))
      refine VStore.all hr rfl ?_
      intro w8 hr8 hk8 hk8_sz
      have kp := kp.fresh_ hk8 (Nat.le_refl _)
      have ho9 := hown.keep hk8 (fun a ha e => by have := (hown.type_ne ha hr (by decide)); exact this e)
      (conv => whnf)
      refine VLoads.blk hr8 rfl ?_
      (conv => whnf)
      exact ⟨SnV.mk (ks := (splitP (decodeP l).1.data).1.map (fun o => o.t)) (hsn) (by rw [List.length_map]; exact hn9) (Sl.ofOwn ho9) (ho9.le) (fun a ha => ho9.ty ha), kp⟩
    obtain ⟨y, hy⟩ : ∃ y, (splitP (decodeP l).1.data).1[k]? = some y := ⟨_, List.getElem?_eq_getElem (by omega)⟩
    obtain ⟨b, o, A1, c1, hA, hkn, e0, e1, _⟩ := hp9.at_ hs9 hy
    have hbb : ¬ b = w1.heap.size := by have := hb9 _ hA; dsimp only at this; omega
    have e0 := kq.cell e0 hbb
    have e1 := kq.cell e1 hbb
    refine VIdx.mul k rfl (by omega) hA ?_
    (conv => whnf)
    refine VLoads.two e0 e1 ?_
    (conv => whnf)
    refine ⟨fun wa hba hka => ?_⟩; have hba_lt := Blk.lt hba; have hka_sz := hka.size; (conv => whnf); (refine VReq.mk ⟨rfl, (fun u hu => List.all_eq_true.mp (show List.all _ (fun u => u.oneCell') = true by rfl) u hu)⟩ ?_; (conv => whnf)); refine VStore.all hba rfl ?_; intro wb hbb2 hkb hkb_sz; have hkb := Keep.fresh_ hka hkb (Nat.le_refl _); (conv => whnf)
    have kp := kp.keepNo hkb; have hb := hb.keepNo hkb; have hown := hown.keepNo hkb; have kq := kq.keepNo hkb
    refine VLoad.by_ ((hb).cell 2) ?_; (conv => whnf)
    refine VLoad.by_ ((hbb2).cell 0) ?_; (conv => whnf)
    refine VFill.by_ rfl ?_; (conv => whnf)
    refine ⟨fun wc hbc hkc => ?_⟩; have hbc_lt := Blk.lt hbc; have hkc_sz := hkc.size; (conv => whnf)
    have kp := kp.keepNo hkc; have hb := hb.keepNo hkc; have hown := hown.keepNo hkc; have kq := kq.keepNo hkc
    refine appIv kq hown hbc rfl (by omega) ?_
    intro A2 c2 wd2 ho2 kq2 hkA
    have hb := hb.keep hkA (fun ⟨a, ha, e⟩ => hown.type_ne ha hb (by decide) e)
    (conv => whnf)
    refine VStore.one hb (Nat.le_of_ble_eq_true rfl) ?_
    intro we hb hke hke_sz
    have ho3 := ho2.keep hke (fun a ha e => by have e : a.block = w1.heap.size := e; have := (ho2.base_ ha).1; omega)
    have kq3 := kq2.trans hke
    (conv => whnf)
    refine VRes.i64 (by omega) ?_; (conv => whnf)
    exact ⟨(k + 1, A2, c2), ⟨rfl, rfl, rfl, rfl, rfl, trivial⟩, ⟨by omega, hb, by rw [kds k y hy]; exact ho3, kq3⟩, by dsimp only; omega⟩
  · skip
    refine (Pk.decode_ok w3 (hs.keepNo kp) (by omega) hnc).mono ?_
    rintro v w4 ⟨x, rfl, hx, hk4⟩
    have hx0 := hx
    obtain ⟨A4, n4, c4, rfl, _⟩ := hx0
    have kp := kp.keepNo hk4; have hr := hr.keepNo hk4; have hb := hb.keepNo hk4
    have hk4_sz := hk4.size
    (conv => whnf)
    refine ⟨fun w5 hb5 hk5 => ?_⟩; have hb5_lt := Blk.lt hb5; have hk5_sz := hk5.size; (conv => whnf); (refine VReq.mk ⟨rfl, (fun u hu => List.all_eq_true.mp (show List.all _ (fun u => u.oneCell') = true by rfl) u hu)⟩ ?_; (conv => whnf)); refine VStore.all hb5 rfl ?_; intro w6 hb6 hk6 hk6_sz; have hk6 := Keep.fresh_ hk5 hk6 (Nat.le_refl _); (conv => whnf)
    have kp := kp.keepNo hk6; have hr := hr.keepNo hk6; have hb := hb.keepNo hk6; have hx := hx.keepNo hk6
    refine VCmp.mk (fun h0 => ?_) (fun h0 => ?_) <;> (conv => whnf)
    · have hsn : snP p l = ⟨p, -1, [], (n : Nat), false⟩ := by
        refine Sn.ext_ rfl ?_ ?_ (by show ((l.length : Nat) : Int) = n; rw [hl]) ?_
        · show (if _ then _ else _) = _
          rw [if_pos (by first | exact .inl (by simp [nego]; omega) | exact .inr (by omega)), if_neg h0]
        · show kindsP p l = []
          unfold kindsP
          rw [if_neg (fun h => h0 h.2.1)]
        · show (decide (p = 253) && _) = _
          rw [decide_eq_false (by omega)]; rfl
      refine VStore.one hb (Nat.le_of_ble_eq_true rfl) ?_
      intro w7 hb hk7 hk7_sz
      have hr := hr.keep hk7 (by omega)
      have kp := kp.fresh_ hk7 (by omega)
      (conv => whnf)
      refine VLoads.blk hb rfl ?_
      (conv => whnf)
      (refine VReq.mk ⟨rfl, (fun u hu => List.all_eq_true.mp (show List.all _ (fun u => u.oneCell') = true by rfl) u hu)⟩ ?_; (conv => whnf))
      refine VStore.all hr rfl ?_
      intro w8 hr8 hk8 hk8_sz
      have kp := kp.fresh_ hk8 (Nat.le_refl _)
      (conv => whnf)
      refine VLoads.blk hr8 rfl ?_
      (conv => whnf)
      exact ⟨SnV.mk (ks := []) (hsn) rfl (Sl.nil) (Nat.le_refl _) (fun a ha => by cases ha), kp⟩
    have h0 : (decodeP l).2 = 0 := by omega
    refine VLoad.by_ ((hb6).cell 0) ?_; (conv => whnf)
    refine VStore.one hb (Nat.le_of_ble_eq_true rfl) ?_
    intro w7 hb hk7 hk7_sz
    have hr := hr.keep hk7 (by omega)
    have hb6 := hb6.keep hk7 (by omega)
    have kp := kp.fresh_ hk7 (by omega)
    have hx := hx.keepLo hk7 (by omega)
    (conv => whnf)
    have hsn : snP p l = ⟨p, (decodeP l).1.code, [], (n : Nat), false⟩ := by
      refine Sn.ext_ rfl ?_ ?_ (by show ((l.length : Nat) : Int) = n; rw [hl]) ?_
      · show (if _ then _ else _) = _
        rw [if_pos (by first | exact .inl (by simp [nego]; omega) | exact .inr (by omega)), if_pos h0]
      · show kindsP p l = []
        unfold kindsP
        rw [if_neg (by first | exact (fun h => by have := h.2.2.1; have := h.2.2.2; omega) | exact (fun h => by have := h.1; simp [nego] at this; omega))]
      · show (decide (p = 253) && _) = _
        rw [decide_eq_false (by omega)]; rfl
    refine VLoads.blk hb rfl ?_
    (conv => whnf)
    (refine VReq.mk ⟨rfl, (fun u hu => List.all_eq_true.mp (show List.all _ (fun u => u.oneCell') = true by rfl) u hu)⟩ ?_; (conv => whnf))
    refine VStore.all hr rfl ?_
    intro w8 hr8 hk8 hk8_sz
    have kp := kp.fresh_ hk8 (Nat.le_refl _)
    (conv => whnf)
    refine VLoads.blk hr8 rfl ?_
    (conv => whnf)
    exact ⟨SnV.mk (ks := []) (hsn) rfl (Sl.nil) (Nat.le_refl _) (fun a ha => by cases ha), kp⟩
  · skip
    refine VIdx.sl (hs.keepNo kp) (0) (by first | rfl | omega) (by omega) (fun b_ o_ hA_ hc_ => ?_); (conv => whnf); refine VLoad.by_ hc_ ?_; (conv => whnf)
    refine VRes.andb (M := 16) rfl rfl (by decide) ?_
    (conv => whnf)
    refine VCmp.mk (fun h5 => ?_) (fun h5 => ?_) <;> (conv => whnf)
    · skip
      have hsn : snP p l = ⟨p, 0, [], (n : Nat), true⟩ := by
        refine Sn.ext_ rfl ?_ ?_ (by show ((l.length : Nat) : Int) = n; rw [hl]) ?_
        · show (if _ then _ else _) = _
          rw [if_neg (fun h => by simp [nego] at h; omega)]
        · show kindsP p l = []
          unfold kindsP
          rw [if_neg (fun h => by have := h.1; simp [nego] at this; omega)]
        · show (decide (p = 253) && (decide (0 < l.length) && decide ((l.getD 0 0).toNat &&& 16 ≠ 0))) = _
          rw [decide_eq_true (by omega), decide_eq_true (by omega), decide_eq_true (by omega)]; rfl
      refine VStore.one hb (Nat.le_of_ble_eq_true rfl) ?_
      intro w7 hb hk7 hk7_sz
      have hr := hr.keep hk7 (by omega)
      have kp := kp.fresh_ hk7 (by omega)
      (conv => whnf)
      refine VLoads.blk hb rfl ?_
      (conv => whnf)
      (refine VReq.mk ⟨rfl, (fun u hu => List.all_eq_true.mp (show List.all _ (fun u => u.oneCell') = true by rfl) u hu)⟩ ?_; (conv => whnf))
      refine VStore.all hr rfl ?_
      intro w8 hr8 hk8 hk8_sz
      have kp := kp.fresh_ hk8 (Nat.le_refl _)
      (conv => whnf)
      refine VLoads.blk hr8 rfl ?_
      (conv => whnf)
      exact ⟨SnV.mk (ks := []) (hsn) rfl (Sl.nil) (Nat.le_refl _) (fun a ha => by cases ha), kp⟩
    · skip
      have hsn : snP p l = ⟨p, 0, [], (n : Nat), false⟩ := by
        refine Sn.ext_ rfl ?_ ?_ (by show ((l.length : Nat) : Int) = n; rw [hl]) ?_
        · show (if _ then _ else _) = _
          rw [if_neg (fun h => by simp [nego] at h; omega)]
        · show kindsP p l = []
          unfold kindsP
          rw [if_neg (fun h => by have := h.1; simp [nego] at this; omega)]
        · show (decide (p = 253) && (decide (0 < l.length) && decide ((l.getD 0 0).toNat &&& 16 ≠ 0))) = _
          rw [decide_eq_true (by omega), decide_eq_true (by omega), decide_eq_false (by omega)]; rfl
      refine VStore.one hb (Nat.le_of_ble_eq_true rfl) ?_
      intro w7 hb hk7 hk7_sz
      have hr := hr.keep hk7 (by omega)
      have kp := kp.fresh_ hk7 (by omega)
      (conv => whnf)
      refine VLoads.blk hb rfl ?_
      (conv => whnf)
      (refine VReq.mk ⟨rfl, (fun u hu => List.all_eq_true.mp (show List.all _ (fun u => u.oneCell') = true by rfl) u hu)⟩ ?_; (conv => whnf))
      refine VStore.all hr rfl ?_
      intro w8 hr8 hk8 hk8_sz
      have kp := kp.fresh_ hk8 (Nat.le_refl _)
      (conv => whnf)
      refine VLoads.blk hr8 rfl ?_
      (conv => whnf)
      exact ⟨SnV.mk (ks := []) (hsn) rfl (Sl.nil) (Nat.le_refl _) (fun a ha => by cases ha), kp⟩
  · skip
    have hsn : snP p l = ⟨p, 0, [], (n : Nat), false⟩ := by
      refine Sn.ext_ rfl ?_ ?_ (by show ((l.length : Nat) : Int) = n; rw [hl]) ?_
      · show (if _ then _ else _) = _
        rw [if_neg (fun h => by simp [nego] at h; omega)]
      · show kindsP p l = []
        unfold kindsP
        rw [if_neg (fun h => by have := h.1; simp [nego] at this; omega)]
      · show (decide (p = 253) && (decide (0 < l.length) && decide ((l.getD 0 0).toNat &&& 16 ≠ 0))) = _
        rw [decide_eq_true (by omega), decide_eq_false (show ¬ 0 < l.length by omega)]; rfl
    refine VStore.one hb (Nat.le_of_ble_eq_true rfl) ?_
    intro w7 hb hk7 hk7_sz
    have hr := hr.keep hk7 (by omega)
    have kp := kp.fresh_ hk7 (by omega)
    (conv => whnf)
    refine VLoads.blk hb rfl ?_
    (conv => whnf)
    (refine VReq.mk ⟨rfl, (fun u hu => List.all_eq_true.mp (show List.all _ (fun u => u.oneCell') = true by rfl) u hu)⟩ ?_; (conv => whnf))
    refine VStore.all hr rfl ?_
    intro w8 hr8 hk8 hk8_sz
    have kp := kp.fresh_ hk8 (Nat.le_refl _)
    (conv => whnf)
    refine VLoads.blk hr8 rfl ?_
    (conv => whnf)
    exact ⟨SnV.mk (ks := []) (hsn) rfl (Sl.nil) (Nat.le_refl _) (fun a ha => by cases ha), kp⟩
  · skip
    have hsn : snP p l = ⟨p, 0, [], (n : Nat), false⟩ := by
      refine Sn.ext_ rfl ?_ ?_ (by show ((l.length : Nat) : Int) = n; rw [hl]) ?_
      · show (if _ then _ else _) = _
        rw [if_neg (fun h => by simp [nego] at h; omega)]
      · show kindsP p l = []
        unfold kindsP
        rw [if_neg (fun h => by have := h.1; simp [nego] at this; omega)]
      · show (decide (p = 253) && (decide (0 < l.length) && decide ((l.getD 0 0).toNat &&& 16 ≠ 0))) = _
        rw [decide_eq_false (show ¬ p = 253 by omega)]; rfl
    refine VLoads.blk hb rfl ?_
    (conv => whnf)
    (refine VReq.mk ⟨rfl, (fun u hu => List.all_eq_true.mp (show List.all _ (fun u => u.oneCell') = true by rfl) u hu)⟩ ?_; (conv => whnf))
    refine VStore.all hr rfl ?_
    intro w8 hr8 hk8 hk8_sz
    have kp := kp.fresh_ hk8 (Nat.le_refl _)
    (conv => whnf)
    refine VLoads.blk hr8 rfl ?_
    (conv => whnf)
    exact ⟨SnV.mk (ks := []) (hsn) rfl (Sl.nil) (Nat.le_refl _) (fun a ha => by cases ha), kp⟩
end Go.Proofs.YtpofkhjkdkkajaaDoor
