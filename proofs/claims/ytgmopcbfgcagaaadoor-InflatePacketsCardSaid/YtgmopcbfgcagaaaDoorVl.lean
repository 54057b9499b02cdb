/-
  From a statement's arguments, as they are read, to what the walks ask of them; and from a walk back to the statement's own form.
-/
import Derived.Test.YtgmopcbfgcagaaaDoorVk
import Derived.ProofKit
import Derived.OpenShut
import Derived.ShutString
import Derived.ChangeOld
import Derived.Deep.Slices
namespace Go.Proofs.YtgmopcbfgcagaaaDoor.V
open Go Go.RowKit Go.ChangeShapes Go.WideShapes

theorem VC.law {P : Program} {f : FuncId} {args : List Value} {w : World} (h : VC P f args w fun v w' => v = .bool true ∧ Keep No w w') :
    Calls P f args.toArray w fun e w' => e = .returned (.bool true) ∧ Below w.heap.size w w' :=
  h.calls.mono fun e w' he => by
    cases e with
    | returned v =>
      obtain ⟨rfl, hk⟩ := he
      exact ⟨rfl, hk.below (Nat.le_refl _) (fun _ _ => id)⟩
    | panicked c => exact he.elim
    | outgrown => exact he.elim

section
variable {H : Type} {enc : TypeId × Value → H} {P : Program} {w : World} {spare : Nat → Bool} {held : Bool}

theorem addr_none {a : Addr} {i : Nat} {v : Value} (h : w.cell? (a.add i) = some v) (h0 : i = 0 ∨ a.spot = none) : a.spot = none := by
  rcases h0 with rfl | h0
  · have : a.add 0 = a := by simp [Addr.add]
    rw [this] at h
    exact World.cell?_spot h
  · exact h0

theorem cell_lt {a : Addr} {v : Value} (h : w.cell? a = some v) : a.block < w.heap.size := by
  rcases Nat.lt_or_ge a.block w.heap.size with h1 | h1
  · exact h1
  · unfold World.cell? at h; rw [Array.getElem?_eq_none h1] at h; cases h

theorem byte_of {z : Int} (h : (Lit.int .u8 z).wf = true) : ∃ x : UInt8, z = (x.toNat : Int) := by
  have hb : 0 ≤ z ∧ z ≤ 255 := by
    have := h
    simp [Lit.wf, IntKind.min, IntKind.max, IntKind.signed, IntKind.bits] at this
    omega
  refine ⟨UInt8.ofNat z.toNat, ?_⟩
  rw [UInt8.toNat_ofNat_of_lt' (by show z.toNat < 256; omega)]
  omega

theorem word_of {z : Int} (h : (Lit.int .u32 z).wf = true) : ∃ x : BitVec 32, z = (x.toNat : Int) := by
  have hb : 0 ≤ z ∧ z ≤ 4294967295 := by
    have := h
    simp [Lit.wf, IntKind.min, IntKind.max, IntKind.signed, IntKind.bits] at this
    omega
  refine ⟨BitVec.ofNat 32 z.toNat, ?_⟩
  rw [BitVec.toNat_ofNat, Nat.mod_eq_of_lt (by show z.toNat < 2 ^ 32; omega)]
  omega

theorem int_of {z : Int} (h : (Lit.int .i64 z).wf = true) : -9223372036854775808 ≤ z ∧ z ≤ 9223372036854775807 := by
  have := h
  simp [Lit.wf, IntKind.min, IntKind.max, IntKind.signed, IntKind.bits] at this
  omega

theorem bytes_of : ∀ (zs : List Int), (∀ z ∈ zs, (Lit.int .u8 z).wf = true) → ∃ l : List UInt8, zs.map (Value.int .u8) = l.map vb
  | [], _ => ⟨[], rfl⟩
  | z :: zs, h => by
    obtain ⟨x, hx⟩ := byte_of (h z (by simp))
    obtain ⟨l, hl⟩ := bytes_of zs (fun y hy => h y (by simp [hy]))
    exact ⟨x :: l, by rw [List.map_cons, List.map_cons, hl, hx]; rfl⟩

/-- A slice of bytes that came in. -/
theorem open_bytes {t e : TypeId} {fuel : Nat} {V : Value} {x : DataW H × List MemPlace} (ht : P.underlying t = some (.slice e)) (he : P.underlying e = some (.int .u8)) (hc : P.cellsOf e = 1)
    (h : DataW.trod enc P w 0 spare held fuel t [V] = some x) :
    ∃ (A : Option Addr) (n c : Nat) (l : List UInt8), V = .slice A n c ∧ Sl w 1 A n (l.map vb) ∧ l.length = n ∧ n ≤ c ∧ c ≤ 9223372036854775807 ∧ ∀ a, A = some a → 0 < n → a.block < w.heap.size := by
  rcases open_ints ht he hc h with ⟨hcs, _⟩ | ⟨a, n, c, zs, hcs, _, hl, hm, hz, _, hcell, hwz⟩
  · obtain rfl : V = .slice none 0 0 := by simpa using hcs
    exact ⟨none, 0, 0, [], rfl, Sl.nil, rfl, Nat.le_refl _, by omega, fun a ha => by cases ha⟩
  · obtain rfl : V = .slice (some a) n c := by simpa using hcs
    have hzl : n ≤ zs.length := by rw [hz]; split <;> omega
    obtain ⟨l, hl2⟩ := bytes_of (zs.take n) (fun z hz => hwz z (List.mem_of_mem_take hz))
    have hll : l.length = n := by
      have := congrArg List.length hl2
      simp only [List.length_map, List.length_take] at this
      omega
    refine ⟨_, _, _, l, rfl, ⟨by simp [hll], ?_⟩, hll, hl, by unfold maxLen at hm; omega, ?_⟩
    · rcases Nat.eq_zero_or_pos n with h0 | h0
      · exact .inl h0
      · have hs : a.spot = none := addr_none (hcell 0 (by omega)) (.inl rfl)
        obtain ⟨b, o, sp⟩ := a
        simp only at hs
        subst hs
        refine .inr ⟨b, o, rfl, fun j v hj => ?_⟩
        rw [← hl2, List.getElem?_map] at hj
        have hjn : j < n := by
          rcases Nat.lt_or_ge j n with h | h
          · exact h
          · rw [List.getElem?_eq_none (by rw [List.length_take]; omega)] at hj; cases hj
        have := hcell j (by omega)
        rw [addr_add] at this
        rw [this]
        rw [List.getElem?_take_of_lt hjn, List.getElem?_eq_getElem (by omega)] at hj
        simp only [Option.map_some, Option.some.injEq] at hj
        rw [← hj, List.getD_eq_getElem?_getD, List.getElem?_eq_getElem (by omega)]
        rfl
    · intro a' ha h0
      cases ha
      have := cell_lt (hcell 0 (by omega))
      simpa [Addr.add] using this

/-- A slice of byte slices that came in. -/
theorem open_rows {t e f : TypeId} {fuel : Nat} {V : Value} {x : DataW H × List MemPlace} (ht : P.underlying t = some (.slice e)) (hte : P.cellsOf e = 1) (he : P.underlying e = some (.slice f)) (hf : P.underlying f = some (.int .u8)) (hc : P.cellsOf f = 1)
    (h : DataW.trod enc P w 0 spare held fuel t [V] = some x) :
    ∃ (A : Option Addr) (n c : Nat) (va : List Value) (fs : List (List UInt8)), V = .slice A n c ∧ Sl w 1 A n va ∧ Els w (fun k => k < w.heap.size) va fs ∧ n ≤ c ∧ c ≤ 9223372036854775807 ∧ (∀ a, A = some a → 0 < n → a.block < w.heap.size) ∧ ∀ f ∈ fs, f.length ≤ 9223372036854775807 := by
  rcases Go.Deep.open_slice1 ht hte h with ⟨hcs, _⟩ | ⟨a, n, c, m, k, W, D, Pl, hcs, _, hl, hm, hmm, _, hcell⟩
  · obtain rfl : V = .slice none 0 0 := by simpa using hcs
    exact ⟨none, 0, 0, [], [], rfl, Sl.nil, Els.nil _ _, Nat.le_refl _, by omega, fun a ha => (by cases ha), fun f hf => by cases hf⟩
  · obtain rfl : V = .slice (some a) n c := by simpa using hcs
    have hnm : n ≤ m := by rw [hmm]; split <;> omega
    have each : ∀ i, i < n → ∃ g : List UInt8, FrAt w (fun k => k < w.heap.size) (W i) g ∧ g.length ≤ 9223372036854775807 := by
      intro i hi
      obtain ⟨_, h2⟩ := hcell i (by omega)
      obtain ⟨A', n', c', l, hv, s1, s2, s3, s4, s5⟩ := open_bytes he hf hc h2
      subst s2
      exact ⟨l, ⟨A', c', hv, s3, s1, s5⟩, by omega⟩
    obtain ⟨G, hG⟩ := Go.Deep.choose_lt each
    refine ⟨_, _, _, (List.range n).map W, (List.range n).map G, rfl, ⟨by simp, ?_⟩, ⟨by simp, ?_⟩, hl, by unfold maxLen at hm; omega, ?_, ?_⟩
    · rcases Nat.eq_zero_or_pos n with h0 | h0
      · exact .inl h0
      · have hs : a.spot = none := addr_none (hcell 0 (by omega)).1 (.inl rfl)
        obtain ⟨b, o, sp⟩ := a
        simp only at hs
        subst hs
        refine .inr ⟨b, o, rfl, fun j v hj => ?_⟩
        have hjn : j < n := by
          rcases Nat.lt_or_ge j n with h | h
          · exact h
          · rw [List.getElem?_eq_none (by simpa using h)] at hj; cases hj
        rw [List.getElem?_map, List.getElem?_range hjn] at hj
        simp only [Option.map_some, Option.some.injEq] at hj
        subst hj
        have := (hcell j (by omega)).1
        rw [addr_add] at this
        exact this
    · intro i g hg
      have hin : i < n := by
        rcases Nat.lt_or_ge i n with h | h
        · exact h
        · rw [List.getElem?_eq_none (by simpa using h)] at hg; cases hg
      rw [List.getElem?_map, List.getElem?_range hin] at hg
      simp only [Option.map_some, Option.some.injEq] at hg
      subst hg
      exact ⟨W i, by rw [List.getElem?_map, List.getElem?_range hin]; rfl, (hG i hin).1⟩
    · intro a' ha h0
      cases ha
      have := cell_lt (hcell 0 (by omega)).1
      simpa [Addr.add] using this
    · intro g hg
      obtain ⟨i, hi, rfl⟩ := List.mem_map.1 hg
      exact (hG i (List.mem_range.1 hi)).2

end
end Go.Proofs.YtgmopcbfgcagaaaDoor.V
