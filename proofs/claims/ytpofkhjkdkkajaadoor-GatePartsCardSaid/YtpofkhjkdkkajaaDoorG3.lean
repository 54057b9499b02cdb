/-
  Gate: rows of what was seen; Look, the reference's.
-/
import Derived.Test.YtpofkhjkdkkajaaDoorG2
import Derived.Test.YtpofkhjkdkkajaaDoorLd
namespace Go.Proofs.YtpofkhjkdkkajaaDoor
open Go V
open Pk (decodeP splitP PkV OpsN Ops)

abbrev TSG : TypeId := 32
abbrev TSR : TypeId := 41
/-- These cells are those; their kinds in blocks of X. -/
def Sns (w : World) (X : Nat → Prop) (cells : List Value) (ss : List Sn) : Prop :=
  cells.length = ss.length * 5 ∧ ∀ (i : Nat) (s : Sn), ss[i]? = some s → ∃ A c, cells[i * 5]? = some (iv s.proto) ∧ cells[i * 5 + 1]? = some (iv s.code) ∧ cells[i * 5 + 2]? = some (.slice A s.kinds.length c) ∧ cells[i * 5 + 3]? = some (iv s.bytes) ∧ cells[i * 5 + 4]? = some (.bool s.enc) ∧
    Sl w 1 A s.kinds.length (s.kinds.map iv) ∧ s.kinds.length ≤ c ∧ ∀ a, A = some a → 0 < s.kinds.length → X a.block
theorem Sns.nil (w : World) (X : Nat → Prop) : Sns w X [] [] := ⟨rfl, fun i s h => by simp at h⟩
theorem Sns.keep {S X : Nat → Prop} {w w' : World} {cells : List Value} {ss : List Sn} (h : Sns w X cells ss) (k : Keep S w w') (hs : ∀ i, X i → ¬ S i) : Sns w' X cells ss :=
  ⟨h.1, fun i s hi => by
    obtain ⟨A, c, e0, e1, e2, e3, e4, h1, h2, h3⟩ := h.2 i s hi
    exact ⟨A, c, e0, e1, e2, e3, e4, h1.keepP k (fun a ha h0 => hs _ (h3 a ha h0)), h2, h3⟩⟩
theorem Sns.keepNo {X : Nat → Prop} {w w' : World} {cells : List Value} {ss : List Sn} (h : Sns w X cells ss) (k : Keep No w w') : Sns w' X cells ss := h.keep k (fun _ _ => id)
theorem Sns.mono {X Y : Nat → Prop} {w : World} {cells : List Value} {ss : List Sn} (h : Sns w X cells ss) (hs : ∀ i, X i → Y i) : Sns w Y cells ss :=
  ⟨h.1, fun i s hi => by
    obtain ⟨A, c, e0, e1, e2, e3, e4, h1, h2, h3⟩ := h.2 i s hi
    exact ⟨A, c, e0, e1, e2, e3, e4, h1, h2, fun a ha h0 => hs _ (h3 a ha h0)⟩⟩
abbrev SnsT (w : World) (cells : List Value) (ss : List Sn) : Prop := Sns w (fun k => Ty w k TInt) cells ss
theorem SnsT.keep {S : Nat → Prop} {w w' : World} {cells : List Value} {ss : List Sn} (h : SnsT w cells ss) (k : Keep S w w') (hs : ∀ i, Ty w i TInt → ¬ S i) : SnsT w' cells ss :=
  ⟨h.1, fun i s hi => by
    obtain ⟨A, c, e0, e1, e2, e3, e4, h1, h2, h3⟩ := h.2 i s hi
    exact ⟨A, c, e0, e1, e2, e3, e4, h1.keepP k (fun a ha h0 => hs _ (h3 a ha h0)), h2, fun a ha h0 => (h3 a ha h0).keep k (hs _ (h3 a ha h0))⟩⟩
theorem SnsT.keepNo {w w' : World} {cells : List Value} {ss : List Sn} (h : SnsT w cells ss) (k : Keep No w w') : SnsT w' cells ss := h.keep k (fun _ _ => id)
theorem Sns.append {X : Nat → Prop} {w : World} {c1 c2 : List Value} {o1 o2 : List Sn} (h : Sns w X c1 o1) (h' : Sns w X c2 o2) : Sns w X (c1 ++ c2) (o1 ++ o2) := by
  refine ⟨by rw [List.length_append, List.length_append, h.1, h'.1, Nat.add_mul], fun i o ho => ?_⟩
  have hl := h.1
  by_cases hi : i < o1.length
  · rw [List.getElem?_append_left hi] at ho
    obtain ⟨A, c, e0, e1, e2, e3, e4, r⟩ := h.2 i o ho
    refine ⟨A, c, ?_, ?_, ?_, ?_, ?_, r⟩
    all_goals (rw [List.getElem?_append_left (by omega)]; assumption)
  · rw [List.getElem?_append_right (by omega)] at ho
    obtain ⟨A, c, e0, e1, e2, e3, e4, r⟩ := h'.2 _ o ho
    refine ⟨A, c, ?_, ?_, ?_, ?_, ?_, r⟩
    · rw [List.getElem?_append_right (by omega), show i * 5 - c1.length = (i - o1.length) * 5 from by omega]; exact e0
    · rw [List.getElem?_append_right (by omega), show i * 5 + 1 - c1.length = (i - o1.length) * 5 + 1 from by omega]; exact e1
    · rw [List.getElem?_append_right (by omega), show i * 5 + 2 - c1.length = (i - o1.length) * 5 + 2 from by omega]; exact e2
    · rw [List.getElem?_append_right (by omega), show i * 5 + 3 - c1.length = (i - o1.length) * 5 + 3 from by omega]; exact e3
    · rw [List.getElem?_append_right (by omega), show i * 5 + 4 - c1.length = (i - o1.length) * 5 + 4 from by omega]; exact e4
theorem Sns.one_ {X : Nat → Prop} {w : World} {A : Option Addr} {c : Nat} {s : Sn} (h1 : Sl w 1 A s.kinds.length (s.kinds.map iv)) (h2 : s.kinds.length ≤ c) (h3 : ∀ a, A = some a → X a.block) :
    Sns w X [iv s.proto, iv s.code, .slice A s.kinds.length c, iv s.bytes, .bool s.enc] [s] :=
  ⟨rfl, fun i p hp => by
    match i, hp with
    | 0, hp =>
      obtain rfl : s = p := by simpa using hp
      exact ⟨A, c, rfl, rfl, rfl, rfl, rfl, h1, h2, fun a ha _ => h3 a ha⟩
    | i + 1, hp => simp at hp⟩
theorem Sns.cells1 {X : Nat → Prop} {w : World} {cells : List Value} {ss : List Sn} (h : Sns w X cells ss) : ∀ u ∈ cells, u.oneCell' = true := by
  intro u hu
  obtain ⟨i, hi⟩ := List.getElem?_of_mem hu
  have hlt : i < cells.length := by
    rcases Nat.lt_or_ge i cells.length with h | h
    · exact h
    · rw [List.getElem?_eq_none h] at hi; cases hi
  have hl := h.1
  obtain ⟨A, c, e0, e1, e2, e3, e4, _⟩ := h.2 (i / 5) _ (List.getElem?_eq_getElem (by omega))
  have hh : i = i / 5 * 5 ∨ i = i / 5 * 5 + 1 ∨ i = i / 5 * 5 + 2 ∨ i = i / 5 * 5 + 3 ∨ i = i / 5 * 5 + 4 := by omega
  rcases hh with e | e | e | e | e
  · rw [← e, hi] at e0; cases e0; rfl
  · rw [← e, hi] at e1; cases e1; rfl
  · rw [← e, hi] at e2; cases e2; rfl
  · rw [← e, hi] at e3; cases e3; rfl
  · rw [← e, hi] at e4; cases e4; rfl
theorem Sns.len {X : Nat → Prop} {w : World} {A : Option Addr} {n : Nat} {cells : List Value} {ss : List Sn} (ho : Sns w X cells ss) (hs : Sl w 5 A n cells) : ss.length = n := by
  have := ho.1
  have := hs.1
  omega
/-- One of a row in memory. -/
theorem Sns.at_ {X : Nat → Prop} {w : World} {A : Option Addr} {n : Nat} {cells : List Value} {ss : List Sn} (ho : Sns w X cells ss) (hs : Sl w 5 A n cells) {k : Nat} {x : Sn} (hx : ss[k]? = some x) :
    ∃ b o A1 c1, A = some ⟨b, o, none⟩ ∧ k < n ∧ w.cell? ⟨b, o + k * 5, none⟩ = some (iv x.proto) ∧ w.cell? ⟨b, o + k * 5 + 1, none⟩ = some (iv x.code) ∧ w.cell? ⟨b, o + k * 5 + 2, none⟩ = some (.slice A1 x.kinds.length c1) ∧ w.cell? ⟨b, o + k * 5 + 3, none⟩ = some (iv x.bytes) ∧ w.cell? ⟨b, o + k * 5 + 4, none⟩ = some (.bool x.enc) ∧
      Sl w 1 A1 x.kinds.length (x.kinds.map iv) := by
  obtain ⟨A1, c1, e0, e1, e2, e3, e4, h4, _⟩ := ho.2 k x hx
  have hlt : k < ss.length := by
    rcases Nat.lt_or_ge k ss.length with h | h
    · exact h
    · rw [List.getElem?_eq_none h] at hx; cases hx
  have hl := ho.1
  have hl2 := hs.1
  obtain ⟨b, o, hA, hc⟩ := hs.at_ (by omega)
  exact ⟨b, o, A1, c1, hA, by omega, hc _ _ e0, by rw [Nat.add_assoc]; exact hc _ _ e1, by rw [Nat.add_assoc]; exact hc _ _ e2, by rw [Nat.add_assoc]; exact hc _ _ e3, by rw [Nat.add_assoc]; exact hc _ _ e4, h4⟩
theorem VLoads.five {L : Addr → Value → Prop} {b o : Nat} {v0 v1 v2 v3 v4 : Value} {K : List Value → Prop} (h0 : L ⟨b, o, none⟩ v0) (h1 : L ⟨b, o + 1, none⟩ v1) (h2 : L ⟨b, o + 2, none⟩ v2) (h3 : L ⟨b, o + 3, none⟩ v3) (h4 : L ⟨b, o + 4, none⟩ v4) (hK : K [v0, v1, v2, v3, v4]) : VLoads L ⟨b, o, none⟩ 5 K := by
  refine ⟨[v0, v1, v2, v3, v4], rfl, fun j x hj => ?_, hK⟩
  match j, hj with
  | 0, hj => cases hj; exact h0
  | 1, hj => cases hj; rw [addr_add]; exact h1
  | 2, hj => cases hj; rw [addr_add]; exact h2
  | 3, hj => cases hj; rw [addr_add]; exact h3
  | 4, hj => cases hj; rw [addr_add]; exact h4
  | j + 5, hj => simp at hj

theorem appG {w0 w : World} {ty : TypeId} {K : Value → World → Prop} {A : Option Addr} {n c : Nat} {xs : List Value} {B : Option Addr} {m d : Nat} {ys : List Value}
    (h0 : Keep No w0 w) (hown : Own w w0.heap.size TG 5 A n c xs) (hsrc : Sl w 5 B m ys) (h1 : ∀ u ∈ ys, u.oneCell' = true) (hlen : n + m ≤ 1000000)
    (hK : ∀ A' c' w', Own w' w0.heap.size TG 5 A' (n + m) c' (xs ++ ys) → Keep No w0 w' → Keep (ownS A) w w' → K (.slice A' (n + m) c') w') :
    VApp Tryd.prog w #[TSG, TSG] ty (.slice A n c) (.slice B m d) K :=
  VApp.own tt_ok (it := ty32) (ei := ty37) rfl rfl rfl (size := 5) rfl rfl (by omega) hown hsrc h1 (by show (n + m) * 56 ≤ _; omega) (by omega) h0.size
    fun A' c' w' h1 h2 _ => hK A' c' w' h1 (h0.own hown h2) h2
theorem appR {w0 w : World} {ty : TypeId} {K : Value → World → Prop} {A : Option Addr} {n c : Nat} {xs : List Value} {B : Option Addr} {m d : Nat} {ys : List Value}
    (h0 : Keep No w0 w) (hown : Own w w0.heap.size TRs 5 A n c xs) (hsrc : Sl w 5 B m ys) (h1 : ∀ u ∈ ys, u.oneCell' = true) (hlen : n + m ≤ 1000000)
    (hK : ∀ A' c' w', Own w' w0.heap.size TRs 5 A' (n + m) c' (xs ++ ys) → Keep No w0 w' → Keep (ownS A) w w' → K (.slice A' (n + m) c') w') :
    VApp Tryd.prog w #[TSR, TSR] ty (.slice A n c) (.slice B m d) K :=
  VApp.own tt_ok (it := ty41) (ei := ty44) rfl rfl rfl (size := 5) rfl rfl (by omega) hown hsrc h1 (by show (n + m) * 56 ≤ _; omega) (by omega) h0.size
    fun A' c' w' h1 h2 _ => hK A' c' w' h1 (h0.own hown h2) h2

/-! ### What frames show -/
def both : Fo := ⟨true, true⟩
def snOf (f : List UInt8) : List Sn := if (readW f both).2.2 = 0 then [snP (readW f both).1 (readW f both).2.1] else []
def snsOf (fs : List (List UInt8)) : List Sn := fs.flatMap snOf
def badOf (fs : List (List UInt8)) : Nat := (fs.filter fun f => decide ((readW f both).2.2 ≠ 0)).length
theorem snsOf_snoc (fs : List (List UInt8)) (k : Nat) (x : List UInt8) (h : fs[k]? = some x) : snsOf (fs.take (k + 1)) = snsOf (fs.take k) ++ snOf x := by
  rw [List.take_add_one, h]; simp [snsOf]
theorem badOf_snoc (fs : List (List UInt8)) (k : Nat) (x : List UInt8) (h : fs[k]? = some x) : badOf (fs.take (k + 1)) = badOf (fs.take k) + if (readW x both).2.2 = 0 then 0 else 1 := by
  rw [List.take_add_one, h]
  unfold badOf
  rw [List.filter_append, List.length_append]
  congr 1
  by_cases hx : (readW x both).2.2 = 0
  · simp [hx]
  · simp [hx]
theorem badOf_le (fs : List (List UInt8)) : badOf fs ≤ fs.length := List.length_filter_le _ _
theorem snsOf_le (fs : List (List UInt8)) : (snsOf fs).length ≤ fs.length := by
  induction fs with
  | nil => simp [snsOf]
  | cons x r ih =>
    have : snsOf (x :: r) = snOf x ++ snsOf r := by simp [snsOf]
    rw [this, List.length_append]
    have : (snOf x).length ≤ 1 := by unfold snOf; split <;> simp
    simp only [List.length_cons]
    omega
def df0 : Df := ⟨0#32, 4096, [], false, false, 0⟩
def lookP (b : List UInt8) : List Sn × Int := (snsOf (df0.feed b).2, ((badOf (df0.feed b).2 + (df0.feed b).1.dropped : Nat) : Int))
/-- A row of what was seen, and a number. -/
def LookV (w : World) (v : Value) (r : List Sn × Int) : Prop := ∃ A n c cells, v = .tuple #[.slice A n c, .int .i64 r.2] ∧ Sl w 5 A n cells ∧ Sns w (fun _ => True) cells r.1 ∧ n ≤ c

theorem Look_ok (w : World) {A : Option Addr} {n c : Nat} {l : List UInt8} (hg : EtOk w) (hs : Sl w 1 A n (l.map vb)) (hn : n ≤ 100000) :
    VC Tryd.prog 9 [.slice A n c] w (fun v w' => LookV w' v (lookP l) ∧ Keep No w w') := by
  have hl : l.length = n := by simpa using hs.len
  refine VC.of tt_ok Tryd.func9 rfl (by decide +kernel) (Nat.le_of_ble_eq_true rfl) ?_; (conv => whnf)
  refine (new_ok w (0#32) 4096 (by omega)).mono ?_
  rintro v w1 (⟨h1, _⟩ | ⟨q, hq, q1, q2, rfl, hdf, kp⟩)
  · exact absurd h1 (by omega)
  obtain rfl : q = 4096 := by omega
  have hdlt := hdf.lt w.heap.size (.inl rfl)
  (conv => whnf)
  refine VCmp.mk (fun h => absurd rfl h) (fun _ => ?_)
  (conv => whnf)
  refine (feed_okE w1 (D := 0) hdf ⟨by decide, by decide, by simp, by simp⟩ (hs.keepNo kp) (fun a ha h0 e => by
      have hlt := hs.lt (by omega) ha
      rcases e with e | ⟨_, e, _⟩
      · omega
      · cases e) (fun a ha h0 => Nat.lt_of_lt_of_le (hs.lt (by omega) ha) kp.size) (by omega) (by omega)).mono ?_
  rintro v w2 ⟨A', Ao, no, co, vals, rfl, hst⟩
  have hno := hst.no_len
  have hels := hst.els
  have hlow : ∀ i, fpt w.heap.size none i → i = w.heap.size := fun i e => by
    rcases e with e | ⟨_, e, _⟩
    · exact e
    · cases e
  have kp := kp.toNo hst.keep (fun i e => by have := hlow i e; omega)
  have hfl := Df.feed_len df0 l
  have hfe := Df.feed_each (s := df0) (D := 0) ⟨by decide, by decide, by simp [df0], by simp [df0]⟩ l
  have hfd := (Df.feed_ok' (s := df0) (D := 0) ⟨by decide, by decide, by simp [df0], by simp [df0]⟩ l).d
  obtain ⟨fs, hfs⟩ : ∃ fs, fs = (df0.feed l).2 := ⟨_, rfl⟩
  have hlk : lookP l = (snsOf fs, ((badOf fs + (df0.feed l).1.dropped : Nat) : Int)) := by rw [hfs]; rfl
  change no = (df0.feed l).2.length at hno
  change Els w2 _ vals (df0.feed l).2 at hels
  rw [← hfs] at hels hno hfl hfe
  have hdf2 := hst.df
  change DfA w2 w.heap.size A' (df0.feed l).1 at hdf2
  have hsv := Sl.ofOwn hst.out
  (conv => whnf)
  refine VLoop.by_ tt_ok (S := Nat × Option Addr × Nat × List Value) (fun | (k, Al, cl, _) => [(4, .pointer (some ⟨w.heap.size, 0, none⟩)), (6, .slice Al (snsOf (fs.take k)).length cl), (7, .int .i64 (badOf (fs.take k) : Nat)), (21, .slice Ao no co), (22, .int .i64 no), (23, .int .i64 k)])
    (fun | (k, Al, cl, cells) => fun w' => k ≤ no ∧ Own w' w2.heap.size TG 5 Al (snsOf (fs.take k)).length cl cells ∧ SnsT w' cells (snsOf (fs.take k)) ∧ Keep No w2 w') (fun | (k, _) => no - k)
    (0, none, 0, []) ⟨rfl, rfl, rfl, rfl, rfl, rfl, trivial⟩ ⟨by omega, Own.nil _ _ _ _, Sns.nil _ _, Keep.refl _ _⟩ ?_
  rintro ⟨k, Al, cl, cells⟩ w' ⟨hk, hown, hsn, kk⟩
  have hbl := badOf_le (fs.take k)
  have hsl := snsOf_le (fs.take k)
  have htk := List.length_take_le k fs
  have htk2 : (fs.take k).length ≤ fs.length := by rw [List.length_take]; omega
  (conv => whnf)
  refine VCmp.mk (fun h => ?_) (fun h => ?_) <;> (conv => whnf)
  rotate_left 1
  · obtain rfl : k = no := by omega
    rw [List.take_of_length_le (by omega)] at hown hsn hbl ⊢
    refine (dropped_ok w' (hdf2.keepNo kk)).mono ?_
    rintro v w'' ⟨rfl, rfl⟩
    (conv => whnf)
    refine VRes.i64 (by omega) ?_
    (conv => whnf)
    rw [hlk]
    exact ⟨⟨Al, _, cl, cells, by rfl, Sl.ofOwn hown, hsn.mono (fun _ _ => trivial), hown.le⟩, kp.trans kk⟩
  obtain ⟨x, hx⟩ : ∃ x, fs[k]? = some x := ⟨_, List.getElem?_eq_getElem (by omega)⟩
  obtain ⟨vx, hvx, Ax, cx, rfl, hcx, hsx, _⟩ := hels.2 k x hx
  have hxl := hfe x (List.mem_of_getElem? hx)
  obtain ⟨bo, oo, hAo, hco⟩ := hsv.at_ (by omega)
  refine VIdx.one k rfl (by omega) hAo ?_
  (conv => whnf)
  refine VLoad.by_ (kk.cell (hco k _ hvx) id) ?_
  (conv => whnf)
  refine VFill.by_ rfl ?_; (conv => whnf)
  refine (fRead_ok w' both (hsx.keepNo kk) (by omega) hcx (hg.keepNo (kp.trans kk))).mono ?_
  rintro v w3 ⟨⟨A3, c3, rfl, ho3⟩, hk3⟩
  have kk := kk.keepNo hk3; have hown := hown.keepNo hk3; have hsn := hsn.keepNo hk3
  have e1 := snsOf_snoc fs k x hx
  have e2 := badOf_snoc fs k x hx
  have hrl := readW_len x both
  (conv => whnf)
  refine VCmp.mk (fun h3 => ?_) (fun h3 => ?_) <;> (conv => whnf)
  · have e3 : snOf x = [] := by unfold snOf; rw [if_neg h3]
    rw [e3, List.append_nil] at e1
    rw [if_neg h3] at e2
    refine VRes.i64 (by omega) ?_
    (conv => whnf)
    refine VRes.i64 (by omega) ?_; (conv => whnf)
    refine ⟨(k + 1, Al, cl, cells), ⟨rfl, by rw [e1]; rfl, by rw [e2]; rfl, rfl, rfl, rfl, trivial⟩, ⟨by omega, by rw [e1]; exact hown, by rw [e1]; exact hsn, kk⟩, by dsimp only; omega⟩
  · have h3' : (readW x both).2.2 = 0 := by omega
    have e3 : snOf x = [snP (readW x both).1 (readW x both).2.1] := by unfold snOf; rw [if_pos h3']
    rw [e3] at e1
    rw [if_pos h3', Nat.add_zero] at e2
    refine (look_ok w3 (readW x both).1 (Sl.ofOwn ho3) (by omega) ho3.le).mono ?_
    rintro v w4 ⟨⟨A4, c4, rfl, hs4, hc4, hx4⟩, hk4⟩
    have kk := kk.keepNo hk4; have hown := hown.keepNo hk4; have hsn := hsn.keepNo hk4
    obtain ⟨y, hy⟩ : ∃ y, y = snP (readW x both).1 (readW x both).2.1 := ⟨_, rfl⟩
    rw [← hy] at e1 hs4 hc4 ⊢
    (conv => whnf)
    refine VFill.by_ rfl ?_; (conv => whnf)
    refine ⟨fun w5 hb5 hk5 => ?_⟩; have hb5_lt := Blk.lt hb5; have hk5_sz := hk5.size; (conv => whnf)
    have kk := kk.keepNo hk5; have hown := hown.keepNo hk5; have hsn := hsn.keepNo hk5; have hs4 := hs4.keepNo hk5
    have hone : SnsT w5 [iv y.proto, iv y.code, .slice A4 y.kinds.length c4, iv y.bytes, .bool y.enc] [y] := Sns.one_ hs4 hc4 (fun a ha => (hx4 a ha).keepNo hk5)
    refine appG (w0 := w2) kk hown (Sl.ofBlk (n := 1) (size := 5) hb5 rfl) hone.cells1 (by omega) ?_
    intro A6 c6 w6 ho6 hk6 hkA
    have hsn6 : SnsT w6 (cells ++ [iv y.proto, iv y.code, .slice A4 y.kinds.length c4, iv y.bytes, .bool y.enc]) (snsOf (fs.take k) ++ [y]) := SnsT.keep (Sns.append hsn hone) hkA (fun i hi ⟨a, ha, e⟩ => (hi.ne (hown.ty ha) (by decide)) e.symm)
    (conv => whnf)
    refine VRes.i64 (by omega) ?_; (conv => whnf)
    refine ⟨(k + 1, A6, c6, _), ⟨rfl, by rw [e1, List.length_append]; rfl, by rw [e2]; rfl, rfl, rfl, rfl, trivial⟩, ⟨by omega, by rw [e1, List.length_append]; exact ho6, by rw [e1]; exact hsn6, hk6⟩, by dsimp only; omega⟩
end Go.Proofs.YtpofkhjkdkkajaaDoor
