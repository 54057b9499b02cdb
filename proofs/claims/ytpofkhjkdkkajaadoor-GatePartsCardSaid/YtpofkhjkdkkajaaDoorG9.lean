/-
  Gate: frames there and back, in plain Lean; datagrams and forms as they come in.
-/
import Derived.Test.YtpofkhjkdkkajaaDoorG5
import Derived.Test.YtpofkhjkdkkajaaDoorG6
import Derived.Test.YtpofkhjkdkkajaaDoorSt7
import Derived.Test.YtpofkhjkdkkajaaDoorVl
import Derived.Deep.Strs
import Derived.Deep.SlicePairs
namespace Go.Proofs.YtpofkhjkdkkajaaDoor
open Go V Go.ChangeShapes Go.WideShapes Go.ChangeAt Go.RowKit

section
variable {H : Type} {enc : TypeId × Value → H} {w : World} {spare : Nat → Bool} {held : Bool}
theorem open_form {fuel : Nat} {cs : Array Value} {x : DataW H × List MemPlace} (h : DataW.trod enc Tryd.prog w 0 spare held fuel TFo cs.toList = some x) :
    ∃ f : Fo, cs = #[.bool f.acfc, .bool f.pfc] := by
  obtain ⟨y0, y1, n, _, hlen, t0, t1⟩ := trod_struct2 Tryd.underlying24 h
  have hc : Tryd.prog.cellsOf TFo = 2 := by kernel_rfl
  have hi : Tryd.prog.cellsOf 4 = 1 := by kernel_rfl
  rw [hc] at hlen
  obtain ⟨l⟩ := cs
  have hl3 : l.length = 2 := hlen
  rcases l with _ | ⟨a, _ | ⟨b, _ | ⟨c, l⟩⟩⟩ <;> first | (exfalso; simp at hl3; done) | skip
  · simp only [hi, List.drop_zero, List.drop_succ_cons, List.take_succ_cons, List.take_zero] at t0 t1
    obtain ⟨z0, e0, _⟩ := DataW.trod_bool Tryd.underlying4 t0
    obtain ⟨z1, e1, _⟩ := DataW.trod_bool Tryd.underlying4 t1
    cases e0
    cases e1
    exact ⟨⟨z0, z1⟩, rfl⟩
end

theorem fieldP_two (h l : UInt8) (r : List UInt8) (g : Fo) (he : h.toNat % 2 = 0) (lo : l.toNat % 2 = 1) : fieldP (h :: l :: r) g = (((two h l : Nat) : Int), r, 0) := by
  have g0 : (h :: l :: r).getD 0 0 = h := rfl
  have g1 : (h :: l :: r).getD 1 0 = l := rfl
  unfold fieldP
  rw [g0, g1, if_neg (by simp), if_neg (show ¬ (h.toNat % 2 = 1 ∧ g.pfc = false) from fun e => by omega), if_neg (show ¬ h.toNat % 2 = 1 by omega), if_neg (by simp), if_neg (show ¬ l.toNat % 2 = 0 by omega)]
  rfl
theorem fieldP_one (l : UInt8) (r : List UInt8) (g : Fo) (lo : l.toNat % 2 = 1) : fieldP (l :: r) g = if g.pfc then (((l.toNat : Nat) : Int), r, 0) else (0, [], 4) := by
  have g0 : (l :: r).getD 0 0 = l := rfl
  unfold fieldP
  rw [g0, if_neg (by simp)]
  cases hq : g.pfc with
  | false => rw [if_pos (show l.toNat % 2 = 1 ∧ false = false from ⟨lo, rfl⟩)]; rfl
  | true => rw [if_neg (show ¬ (l.toNat % 2 = 1 ∧ true = false) from fun e => by cases e.2), if_pos (show l.toNat % 2 = 1 from lo)]; rfl
/-- Is the info too long? -/
def fitP (q : Int × List UInt8 × Int) : Int × List UInt8 × Int := if q.2.2 = 0 ∧ 1516 < q.2.1.length then (0, [], 3) else q
theorem decF_on (r : List UInt8) (g : Fo) : decF (255 :: 3 :: r) g = fitP (fieldP r g) := by
  have : skipP (255 :: 3 :: r) g = some r := by
    unfold skipP
    rw [if_pos ⟨by simp, by rfl, by rfl⟩]
    rfl
  unfold decF
  rw [this]
  rfl
theorem decF_off (x : UInt8) (r : List UInt8) (g : Fo) (hx : x.toNat ≠ 255) : decF (x :: r) g = if g.acfc then fitP (fieldP (x :: r) g) else (0, [], 4) := by
  have : skipP (x :: r) g = if g.acfc then some (x :: r) else none := by
    have g0 : (x :: r).getD 0 0 = x := rfl
    unfold skipP
    rw [g0, if_neg (fun e => hx e.2.1)]
  unfold decF
  rw [this]
  cases g.acfc <;> rfl
theorem fitP_ok {p : Int} {l : List UInt8} (h : l.length ≤ 1516) : fitP (p, l, 0) = (p, l, 0) := by
  unfold fitP
  rw [if_neg (fun e => by have := e.2; simp at this; omega)]

theorem may_bits {p : Int} (h : mayB p = true) : 0 ≤ p ∧ p ≤ 65535 ∧ p.toNat % 2 = 1 ∧ p.toNat / 256 % 2 = 0 ∧ p ≠ 255 := by
  obtain ⟨h1, h2, h3, h4, h5⟩ := (may_prop p).1 h
  refine ⟨h1, h2, by rw [Nat.and_one_is_mod] at h3; exact h3, ?_, h5⟩
  have h6 := congrArg (fun k => Nat.testBit k 8) h4
  simp only [Nat.testBit_and] at h6
  have e : Nat.testBit 256 8 = true := by decide
  rw [e, Bool.and_true, Nat.zero_testBit, Nat.testBit_eq_decide_div_mod_eq] at h6
  have h7 := of_decide_eq_false h6
  have : p.toNat / 2 ^ 8 = p.toNat / 256 := rfl
  omega

theorem hi_nat {p : Int} (h : 0 ≤ p ∧ p ≤ 65535) : (UInt8.ofNat (p.toNat / 2 ^ 8)).toNat = p.toNat / 256 := by
  have : (UInt8.ofNat (p.toNat / 2 ^ 8)).toNat = p.toNat / 2 ^ 8 % 256 := by simp
  rw [this]
  have : p.toNat / 2 ^ 8 = p.toNat / 256 := rfl
  omega
theorem lo_nat {p : Int} : (UInt8.ofNat p.toNat).toNat = p.toNat % 256 := by simp

/-- The wide form of a protocol that may be. -/
theorem field_wide {p : Int} (h : mayB p = true) (info : List UInt8) (g : Fo) : fieldP (UInt8.ofNat (p.toNat / 2 ^ 8) :: UInt8.ofNat p.toNat :: info) g = (p, info, 0) := by
  obtain ⟨h1, h2, h3, h4, h5⟩ := may_bits h
  rw [fieldP_two _ _ _ _ (by rw [hi_nat ⟨h1, h2⟩]; exact h4) (by rw [lo_nat]; omega)]
  unfold two
  rw [hi_nat ⟨h1, h2⟩, lo_nat]
  refine congrArg (fun k => (k, info, (0 : Int))) ?_
  omega
theorem field_short {p : Int} (h : mayB p = true) (hp : p ≤ 255) (info : List UInt8) (g : Fo) : fieldP (UInt8.ofNat p.toNat :: info) g = if g.pfc then (p, info, 0) else (0, [], 4) := by
  obtain ⟨h1, h2, h3, h4, h5⟩ := may_bits h
  rw [fieldP_one _ _ _ (by rw [lo_nat]; omega), lo_nat]
  have : ((p.toNat % 256 : Nat) : Int) = p := by omega
  rw [this]
theorem lo_ne {p : Int} (h : mayB p = true) (hp : p ≤ 255) : (UInt8.ofNat p.toNat).toNat ≠ 255 := by
  obtain ⟨h1, h2, h3, h4, h5⟩ := may_bits h
  rw [lo_nat]
  omega
theorem hi_ne {p : Int} (h : mayB p = true) : (UInt8.ofNat (p.toNat / 2 ^ 8)).toNat ≠ 255 := by
  obtain ⟨h1, h2, h3, h4, h5⟩ := may_bits h
  rw [hi_nat ⟨h1, h2⟩]
  omega

/-- What is made with a form is read with that form, or with one that lets more out. -/
theorem decF_head {p : Int} (h : mayB p = true) (info : List UInt8) (hi : info.length ≤ 1516) (f g : Fo) (ha : f.acfc = true → g.acfc = true) (hq : f.pfc = true → g.pfc = true) : decF (headP p f ++ info) g = (p, info, 0) := by
  by_cases hl : p = 49185
  · rw [headP_lcp hl]
    show decF (255 :: 3 :: (UInt8.ofNat (p.toNat / 2 ^ 8) :: UInt8.ofNat p.toNat :: info)) g = _
    rw [decF_on, field_wide h, fitP_ok hi]
  · obtain ⟨a, q⟩ := f
    by_cases hw : q = false ∨ 255 < p
    · rw [headP_w hl hw]
      cases a with
      | false =>
        show decF (255 :: 3 :: (UInt8.ofNat (p.toNat / 2 ^ 8) :: UInt8.ofNat p.toNat :: info)) g = _
        rw [decF_on, field_wide h, fitP_ok hi]
      | true =>
        show decF (UInt8.ofNat (p.toNat / 2 ^ 8) :: UInt8.ofNat p.toNat :: info) g = _
        rw [decF_off _ _ _ (hi_ne h), if_pos (ha rfl), field_wide h, fitP_ok hi]
    · have hqt : q = true := by
        cases q
        · exact absurd (.inl rfl) hw
        · rfl
      subst hqt
      have hp : p ≤ 255 := by
        rcases Int.lt_or_le 255 p with h1 | h1
        · exact absurd (.inr h1) hw
        · exact h1
      rw [headP_n hl hp]
      cases a with
      | false =>
        show decF (255 :: 3 :: (UInt8.ofNat p.toNat :: info)) g = _
        rw [decF_on, field_short h hp, if_pos (hq rfl), fitP_ok hi]
      | true =>
        show decF (UInt8.ofNat p.toNat :: info) g = _
        rw [decF_off _ _ _ (lo_ne h hp), if_pos (ha rfl), field_short h hp, if_pos (hq rfl), fitP_ok hi]
theorem encF_ok {p : Int} {info : List UInt8} {f : Fo} (h : mayB p = true) (hi : info.length ≤ 1516) : encF p info f = (headP p f ++ info, 0) := by
  unfold encF
  rw [if_pos h, if_neg (by omega)]

theorem check_add (b : List UInt8) : checkP (addP b) = (b, true) := by
  have hL := addP_len b
  have htake : (addP b).take b.length = b := by unfold addP; rw [List.take_left]
  unfold checkP
  rw [hL, show b.length + 2 - 2 = b.length from by omega, htake, if_pos ⟨by omega, rfl⟩]
theorem read_add (b : List UInt8) (f : Fo) : readW (addP b) f = decF b f := by
  unfold readW
  rw [check_add]
  rfl

section
variable {H : Type} {enc : TypeId × Value → H} {w : World} {spare : Nat → Bool} {held : Bool}

theorem open_dgs {fuel : Nat} {V : Value} {x : DataW H × List MemPlace} (h : DataW.trod enc Tryd.prog w 0 spare held fuel 22 [V] = some x) :
    ∃ (A : Option Addr) (n c : Nat) (cells : List Value) (os : List Pk.Opt), V = .slice A n c ∧ Sl w 2 A n cells ∧ Pk.Ops w (fun k => k < w.heap.size) cells os ∧ n ≤ c ∧ c ≤ 9223372036854775807 ∧ ∀ o ∈ os, o.data.length ≤ 9223372036854775807 := by
  rcases Go.Deep.open_slice_pairs Tryd.underlying22 Tryd.underlying29 (by kernel_rfl) rfl rfl (by kernel_rfl) (by kernel_rfl) h with ⟨hcs, _⟩ | ⟨a, n, c, m, k, V0, V1, D0, D1, P0, P1, hcs, _, hl, hm, hmm, _, hcell⟩
  · obtain rfl : V = .slice none 0 0 := by simpa using hcs
    exact ⟨none, 0, 0, [], [], rfl, Sl.nil, Pk.Ops.nil _ _, Nat.le_refl _, by omega, fun f hf => by cases hf⟩
  · obtain rfl : V = .slice (some a) n c := by simpa using hcs
    have hnm : n ≤ m := by rw [hmm]; split <;> omega
    have each : ∀ i, i < n → ∃ g : Pk.Opt, ∃ A1 c1, V0 i = .int .i64 g.t ∧ V1 i = .slice A1 g.data.length c1 ∧ g.data.length ≤ c1 ∧ Sl w 1 A1 g.data.length (g.data.map vb) ∧ (∀ a, A1 = some a → 0 < g.data.length → a.block < w.heap.size) ∧ g.data.length ≤ 9223372036854775807 := by
      intro i hi
      obtain ⟨_, _, h2, h3⟩ := hcell i (by omega)
      obtain ⟨z0, e0, _, w0⟩ := DataW.trod_int Tryd.underlying3 h2
      obtain ⟨A', n', c', l, hv, s1, s2, s3, s4, s5⟩ := open_bytes Tryd.underlying27 Tryd.underlying5 (by kernel_rfl) h3
      subst s2
      exact ⟨⟨z0, l⟩, A', c', by simpa using e0, hv, s3, s1, s5, by show l.length ≤ _; omega⟩
    have : Inhabited Pk.Opt := ⟨⟨0, []⟩⟩
    obtain ⟨G, hG⟩ := Go.Deep.choose_lt each
    rcases Nat.eq_zero_or_pos n with h0 | h0
    · subst h0
      exact ⟨some a, 0, c, [], [], rfl, Sl.nil, Pk.Ops.nil _ _, hl, by unfold maxLen at hm; omega, fun f hf => by cases hf⟩
    have hs : a.spot = none := addr_none (hcell 0 (by omega)).1 (.inl rfl)
    obtain ⟨b, o, sp⟩ := a
    simp only at hs
    subst hs
    refine ⟨_, _, _, (List.range (n * 2)).map (fun j => if j % 2 = 0 then V0 (j / 2) else V1 (j / 2)), (List.range n).map G, rfl, ⟨by simp, .inr ⟨b, o, rfl, fun j v hj => ?_⟩⟩, ⟨by simp, ?_⟩, hl, by unfold maxLen at hm; omega, ?_⟩
    · have hjn : j < n * 2 := by
        rcases Nat.lt_or_ge j (n * 2) with h | h
        · exact h
        · rw [List.getElem?_eq_none (by simpa using h)] at hj; cases hj
      rw [List.getElem?_map, List.getElem?_range hjn] at hj
      simp only [Option.map_some, Option.some.injEq] at hj
      subst hj
      obtain ⟨h1, h2, _, _⟩ := hcell (j / 2) (by omega)
      rw [addr_add] at h1 h2
      split
      · rw [show o + j = o + j / 2 * 2 from by omega]; exact h1
      · rw [show o + j = o + (j / 2 * 2 + 1) from by omega]; exact h2
    · intro i g hg
      have hin : i < n := by
        rcases Nat.lt_or_ge i n with h | h
        · exact h
        · rw [List.getElem?_eq_none (by simpa using h)] at hg; cases hg
      rw [List.getElem?_map, List.getElem?_range hin] at hg
      simp only [Option.map_some, Option.some.injEq] at hg
      subst hg
      obtain ⟨A1, c1, g0, g1, g2, g3, g4, _⟩ := hG i hin
      refine ⟨A1, c1, ?_, ?_, g2, g3, g4⟩
      · rw [List.getElem?_map, List.getElem?_range (by omega)]
        simp only [Option.map_some]
        rw [if_pos (by omega), show i * 2 / 2 = i from by omega, g0]
      · rw [List.getElem?_map, List.getElem?_range (by omega)]
        simp only [Option.map_some]
        rw [if_neg (by omega), show (i * 2 + 1) / 2 = i from by omega, g1]
    · intro g hg
      obtain ⟨i, hi, rfl⟩ := List.mem_map.1 hg
      obtain ⟨A1, c1, _, _, _, _, _, g5⟩ := hG i (List.mem_range.1 hi)
      exact g5
end

/-! ### Frames one behind the other -/
/-- Those that can be put on the line. -/
def wsOf (f : Fo) (m : BitVec 32) (os : List Pk.Opt) : List Pk.Opt := os.filter fun o => decide ((wireP o.t o.data f m).2 = 0)
def bsOf (f : Fo) (m : BitVec 32) (os : List Pk.Opt) : List UInt8 := (wsOf f m os).flatMap fun o => (wireP o.t o.data f m).1
theorem wsOf_yes (f : Fo) (m : BitVec 32) (os : List Pk.Opt) (k : Nat) (x : Pk.Opt) (h : os[k]? = some x) (hx : (wireP x.t x.data f m).2 = 0) : wsOf f m (os.take (k + 1)) = wsOf f m (os.take k) ++ [x] := by
  rw [List.take_add_one, h]
  unfold wsOf
  rw [List.filter_append]
  congr 1
  simp [hx]
theorem wsOf_no (f : Fo) (m : BitVec 32) (os : List Pk.Opt) (k : Nat) (x : Pk.Opt) (h : os[k]? = some x) (hx : ¬ (wireP x.t x.data f m).2 = 0) : wsOf f m (os.take (k + 1)) = wsOf f m (os.take k) := by
  rw [List.take_add_one, h]
  unfold wsOf
  rw [List.filter_append]
  simp [hx]
theorem bsOf_yes (f : Fo) (m : BitVec 32) (os : List Pk.Opt) (k : Nat) (x : Pk.Opt) (h : os[k]? = some x) (hx : (wireP x.t x.data f m).2 = 0) : bsOf f m (os.take (k + 1)) = bsOf f m (os.take k) ++ (wireP x.t x.data f m).1 := by
  unfold bsOf
  rw [wsOf_yes f m os k x h hx, List.flatMap_append]
  simp
theorem bsOf_no (f : Fo) (m : BitVec 32) (os : List Pk.Opt) (k : Nat) (x : Pk.Opt) (h : os[k]? = some x) (hx : ¬ (wireP x.t x.data f m).2 = 0) : bsOf f m (os.take (k + 1)) = bsOf f m (os.take k) := by
  unfold bsOf
  rw [wsOf_no f m os k x h hx]
theorem wireP_short (p : Int) (l : List UInt8) (f : Fo) (m : BitVec 32) : (wireP p l f m).1.length ≤ 2 * l.length + 14 := by
  unfold wireP
  split
  · have h1 := stuffed_le m (addP (encF p l f).1)
    have h2 := headP_len p f
    have h3 : (encF p l f).1.length ≤ 4 + l.length := by
      unfold encF
      split
      · split
        · simp
        · rw [List.length_append]; omega
      · simp
    rw [addP_len] at h1
    show (stuffed _ _).length ≤ _
    omega
  · simp
theorem bs_len (f : Fo) (m : BitVec 32) : ∀ (ws : List Pk.Opt), (∀ o ∈ ws, o.data.length ≤ 300) → (ws.flatMap fun o => (wireP o.t o.data f m).1).length ≤ 700 * ws.length
  | [], _ => by simp
  | o :: r, h => by
    have h1 := bs_len f m r (fun x hx => h x (List.mem_cons_of_mem _ hx))
    have h2 := wireP_short o.t o.data f m
    have h3 := h o (List.mem_cons_self ..)
    simp only [List.flatMap_cons, List.length_append, List.length_cons]
    omega
theorem wireP_one {p : Int} {l : List UInt8} {f : Fo} {m : BitVec 32} (h : (wireP p l f m).2 = 0) (hl : l.length ≤ 300) : mayB p = true ∧ (wireP p l f m).1 = stuffed m (addP (headP p f ++ l)) := by
  have hm : mayB p = true := by
    cases hp : mayB p with
    | true => rfl
    | false =>
      have e : encF p l f = ([], 1) := by unfold encF; rw [hp]; rfl
      unfold wireP at h
      rw [e, if_neg (by decide)] at h
      exact absurd h (by decide)
  refine ⟨hm, ?_⟩
  unfold wireP
  rw [encF_ok hm (by omega)]
  rfl
theorem feed_bs (f : Fo) (m : BitVec 32) : ∀ (ws : List Pk.Opt), (∀ o ∈ ws, (wireP o.t o.data f m).2 = 0 ∧ o.data.length ≤ 300) → df0.feed (ws.flatMap fun o => (wireP o.t o.data f m).1) = (df0, ws.map fun o => addP (headP o.t f ++ o.data))
  | [], _ => rfl
  | o :: r, h => by
    obtain ⟨h1, h2⟩ := h o (List.mem_cons_self ..)
    obtain ⟨_, h3⟩ := wireP_one h1 h2
    have h4 := headP_len o.t f
    have hal := addP_len (headP o.t f ++ o.data)
    rw [List.length_append] at hal
    have hane : addP (headP o.t f ++ o.data) ≠ [] := fun e => by rw [e] at hal; simp at hal
    rw [List.flatMap_cons, h3, Df.feed_append, Df.feed_stuffed m _ df0 ⟨rfl, rfl, rfl⟩ (fun c hc => absurd hc (by simp [df0, mapB])) (by show _ ≤ 4096; omega), if_neg hane, feed_bs f m r (fun x hx => h x (List.mem_cons_of_mem _ hx))]
    rfl
theorem readW_one {p : Int} {l : List UInt8} {f : Fo} (h : mayB p = true) (hl : l.length ≤ 300) : readW (addP (headP p f ++ l)) both = (p, l, 0) := by
  rw [read_add]
  exact decF_head h l (by omega) f both (fun _ => rfl) (fun _ => rfl)
theorem look_bs (f : Fo) (m : BitVec 32) (ws : List Pk.Opt) (h : ∀ o ∈ ws, (wireP o.t o.data f m).2 = 0 ∧ o.data.length ≤ 300) : lookP (ws.flatMap fun o => (wireP o.t o.data f m).1) = (ws.map (fun o => snP o.t o.data), 0) := by
  have e := feed_bs f m ws h
  have each : ∀ o ∈ ws, readW (addP (headP o.t f ++ o.data)) both = (o.t, o.data, 0) := fun o ho => readW_one (wireP_one (h o ho).1 (h o ho).2).1 (h o ho).2
  have e1 : ∀ (ws : List Pk.Opt), (∀ o ∈ ws, readW (addP (headP o.t f ++ o.data)) both = (o.t, o.data, 0)) → snsOf (ws.map fun o => addP (headP o.t f ++ o.data)) = ws.map (fun o => snP o.t o.data) ∧ badOf (ws.map fun o => addP (headP o.t f ++ o.data)) = 0 := by
    intro ws hw
    induction ws with
    | nil => exact ⟨rfl, rfl⟩
    | cons o r ih =>
      obtain ⟨i1, i2⟩ := ih (fun x hx => hw x (List.mem_cons_of_mem _ hx))
      have h0 := hw o (List.mem_cons_self ..)
      constructor
      · have : snsOf ((o :: r).map fun o => addP (headP o.t f ++ o.data)) = snOf (addP (headP o.t f ++ o.data)) ++ snsOf (r.map fun o => addP (headP o.t f ++ o.data)) := by simp [snsOf]
        rw [this, i1]
        unfold snOf
        rw [h0, if_pos rfl]
        rfl
      · unfold badOf at i2 ⊢
        rw [List.map_cons, List.filter_cons, h0]
        simpa using i2
  obtain ⟨i1, i2⟩ := e1 ws each
  unfold lookP
  rw [e, i1, i2]
  rfl
end Go.Proofs.YtpofkhjkdkkajaaDoor
