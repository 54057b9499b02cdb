/-
  Packets and options as they come in.
-/
import Derived.Test.YtififgodhnelgaaP6
import Derived.Test.YtififgodhnelgaaVl
import Derived.Deep.Strs
import Derived.Deep.SlicePairs
namespace Go.Proofs.Ytififgodhnelgaa
open Go V Go.ChangeShapes Go.WideShapes

section
variable {H : Type} {enc : TypeId × Value → H} {w : World} {spare : Nat → Bool} {held : Bool}

theorem open_packet {fuel : Nat} {cs : Array Value} {x : DataW H × List MemPlace} (h : DataW.trod enc Try.prog w 0 spare held fuel TPk cs.toList = some x) :
    ∃ (p : Pk) (A : Option Addr) (n c : Nat), cs = #[.int .i64 p.code, .int .i64 p.id, .slice A n c] ∧ Sl w 1 A n (p.data.map vb) ∧ p.data.length = n ∧ n ≤ c ∧ c ≤ 9223372036854775807 := by
  obtain ⟨y0, y1, y2, n, _, hlen, t0, t1, t2⟩ := Go.Deep.trod_struct3 Try.underlying24 h
  have hc : Try.prog.cellsOf TPk = 3 := by kernel_rfl
  have hi : Try.prog.cellsOf 3 = 1 := by kernel_rfl
  have hb : Try.prog.cellsOf 22 = 1 := by kernel_rfl
  rw [hc] at hlen
  obtain ⟨l⟩ := cs
  have hl3 : l.length = 3 := hlen
  rcases l with _ | ⟨a, _ | ⟨b, _ | ⟨c, _ | ⟨d, l⟩⟩⟩⟩ <;> first | (exfalso; simp at hl3; done) | skip
  · simp only [hi, hb, List.drop_zero, List.drop_succ_cons, List.take_succ_cons, List.take_zero] at t0 t1 t2
    obtain ⟨z0, e0, _, w0⟩ := DataW.trod_int Try.underlying3 t0
    obtain ⟨z1, e1, _, w1⟩ := DataW.trod_int Try.underlying3 t1
    cases e0
    cases e1
    obtain ⟨A, m, cc, r, e2, s1, s2, s3, s4, s5⟩ := open_bytes Try.underlying22 Try.underlying5 (by kernel_rfl) t2
    subst e2
    exact ⟨⟨z0, z1, r⟩, A, m, cc, rfl, s1, s2, s3, s4⟩

theorem open_opts {fuel : Nat} {V : Value} {x : DataW H × List MemPlace} (h : DataW.trod enc Try.prog w 0 spare held fuel TSOp [V] = some x) :
    ∃ (A : Option Addr) (n c : Nat) (cells : List Value) (os : List Opt), V = .slice A n c ∧ Sl w 2 A n cells ∧ Ops w (fun k => k < w.heap.size) cells os ∧ n ≤ c ∧ c ≤ 9223372036854775807 ∧ ∀ o ∈ os, o.data.length ≤ 9223372036854775807 := by
  rcases Go.Deep.open_slice_pairs Try.underlying38 Try.underlying42 (by kernel_rfl) rfl rfl (by kernel_rfl) (by kernel_rfl) h with ⟨hcs, _⟩ | ⟨a, n, c, m, k, V0, V1, D0, D1, P0, P1, hcs, _, hl, hm, hmm, _, hcell⟩
  · obtain rfl : V = .slice none 0 0 := by simpa using hcs
    exact ⟨none, 0, 0, [], [], rfl, Sl.nil, Ops.nil _ _, Nat.le_refl _, by omega, fun f hf => by cases hf⟩
  · obtain rfl : V = .slice (some a) n c := by simpa using hcs
    have hnm : n ≤ m := by rw [hmm]; split <;> omega
    have each : ∀ i, i < n → ∃ g : Opt, ∃ A1 c1, V0 i = .int .i64 g.t ∧ V1 i = .slice A1 g.data.length c1 ∧ g.data.length ≤ c1 ∧ Sl w 1 A1 g.data.length (g.data.map vb) ∧ (∀ a, A1 = some a → 0 < g.data.length → a.block < w.heap.size) ∧ g.data.length ≤ 9223372036854775807 := by
      intro i hi
      obtain ⟨_, _, h2, h3⟩ := hcell i (by omega)
      obtain ⟨z0, e0, _, w0⟩ := DataW.trod_int Try.underlying3 h2
      obtain ⟨A', n', c', l, hv, s1, s2, s3, s4, s5⟩ := open_bytes Try.underlying22 Try.underlying5 (by kernel_rfl) h3
      subst s2
      exact ⟨⟨z0, l⟩, A', c', by simpa using e0, hv, s3, s1, s5, by show l.length ≤ _; omega⟩
    have : Inhabited Opt := ⟨⟨0, []⟩⟩
    obtain ⟨G, hG⟩ := Go.Deep.choose_lt each
    rcases Nat.eq_zero_or_pos n with h0 | h0
    · subst h0
      exact ⟨some a, 0, c, [], [], rfl, Sl.nil, Ops.nil _ _, hl, by unfold maxLen at hm; omega, fun f hf => by cases hf⟩
    have hs : a.spot = none := addr_none (hcell 0 (by omega)).1 (.inl rfl)
    obtain ⟨b, o, sp⟩ := a
    simp only at hs
    subst hs
    refine ⟨_, _, _, (List.range (n * 2)).map (fun j => if j % 2 = 0 then V0 (j / 2) else V1 (j / 2)), (List.range n).map G, rfl, ⟨by simp, .inr ⟨b, o, rfl, fun j v hj => ?_⟩⟩, ⟨by simp, ?_⟩, hl, by unfold maxLen at hm; omega, ?_⟩
    · have hjn : j < n * 2 := by
        rcases Nat.lt_or_ge j (n * 2) with h | h
        · exact h
        · rw [List.getElem?_eq_none (by simpa using h)] at hj; cases hj
      rw [List.getElem?_map, List.getElem?_range hjn] at hj
      simp only [Option.map_some, Option.some.injEq] at hj
      subst hj
      obtain ⟨h1, h2, _, _⟩ := hcell (j / 2) (by omega)
      rw [addr_add] at h1 h2
      split
      · rw [show o + j = o + j / 2 * 2 from by omega]; exact h1
      · rw [show o + j = o + (j / 2 * 2 + 1) from by omega]; exact h2
    · intro i g hg
      have hin : i < n := by
        rcases Nat.lt_or_ge i n with h | h
        · exact h
        · rw [List.getElem?_eq_none (by simpa using h)] at hg; cases hg
      rw [List.getElem?_map, List.getElem?_range hin] at hg
      simp only [Option.map_some, Option.some.injEq] at hg
      subst hg
      obtain ⟨A1, c1, g0, g1, g2, g3, g4, _⟩ := hG i hin
      refine ⟨A1, c1, ?_, ?_, g2, g3, g4⟩
      · rw [List.getElem?_map, List.getElem?_range (by omega)]
        simp only [Option.map_some]
        rw [if_pos (by omega), show i * 2 / 2 = i from by omega, g0]
      · rw [List.getElem?_map, List.getElem?_range (by omega)]
        simp only [Option.map_some]
        rw [if_neg (by omega), show (i * 2 + 1) / 2 = i from by omega, g1]
    · intro g hg
      obtain ⟨i, hi, rfl⟩ := List.mem_map.1 hg
      obtain ⟨A1, c1, _, _, _, _, _, g5⟩ := hG i (List.mem_range.1 hi)
      exact g5
end
end Go.Proofs.Ytififgodhnelgaa
