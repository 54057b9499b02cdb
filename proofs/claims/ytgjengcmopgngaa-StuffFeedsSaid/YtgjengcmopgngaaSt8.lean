/-
  What was told stays told while the deframer goes on; Feed on bytes of the call's own.
-/
import Derived.Test.YtgjengcmopgngaaSt5
import Derived.Test.YtgjengcmopgngaaSt7
namespace Go.Proofs.Ytgjengcmopgngaa
open Go V

/-- The slice at Ao tells the frames fs, apart from the deframer's blocks. -/
def Told (w : World) (d : Nat) (A : Option Addr) (Ao : Option Addr) (no : Nat) (vals : List Value) (fs : List (List UInt8)) : Prop :=
  Sl w 1 Ao no vals ∧ (∀ a, Ao = some a → 0 < no → a.block < w.heap.size ∧ ¬ fpt d A a.block) ∧ ∃ X : Nat → Prop, Els w X vals fs ∧ ∀ i, X i → i < w.heap.size ∧ ¬ fpt d A i

theorem FeedSt.told {w : World} {d : Nat} {A : Option Addr} {s : Df} {A' Ao : Option Addr} {no co : Nat} {vals : List Value} {s' : Df} {fs : List (List UInt8)} {w' : World} (h : FeedSt w d A s A' Ao no co vals s' fs w') : Told w' d A' Ao no vals fs := by
  obtain ⟨n0, c0, hb, ho⟩ := h.df
  refine ⟨Sl.ofOwn h.out, fun a ha _ => ⟨(h.out.base_ ha).2, ?_⟩, _, h.els, ?_⟩
  · rintro (e | ⟨a0, h0, e⟩)
    · exact h.out.type_ne ha hb (by decide) e
    · exact Ty.ne (h.out.ty ha) (ho.ty h0) (by decide) e.symm
  · rintro i ⟨_, h2, h3, h4, _⟩
    exact ⟨h2, fun h => h.elim h3 h4⟩

theorem Told.keepNo {w w' : World} {d : Nat} {A Ao : Option Addr} {no : Nat} {vals : List Value} {fs : List (List UInt8)} (h : Told w d A Ao no vals fs) (k : Keep No w w') : Told w' d A Ao no vals fs := by
  obtain ⟨h1, h2, X, h3, h4⟩ := h
  exact ⟨h1.keepNo k, fun a ha h0 => ⟨Nat.lt_of_lt_of_le (h2 a ha h0).1 k.size, (h2 a ha h0).2⟩, X, h3.keep k (fun _ _ => id), fun i hi => ⟨Nat.lt_of_lt_of_le (h4 i hi).1 k.size, (h4 i hi).2⟩⟩

theorem Told.step {w w' : World} {d : Nat} {A A' Ao : Option Addr} {no : Nat} {vals : List Value} {fs : List (List UInt8)} (h : Told w d A Ao no vals fs) (k : Keep (fpt d A) w w') (hA : ∀ a, A' = some a → ownS A a.block ∨ w.heap.size ≤ a.block) : Told w' d A' Ao no vals fs := by
  obtain ⟨h1, h2, X, h3, h4⟩ := h
  have up : ∀ i, i < w.heap.size → ¬ fpt d A i → ¬ fpt d A' i := by
    rintro i hi hn (e | ⟨a, ha, rfl⟩)
    · exact hn (.inl e)
    · rcases hA a ha with h | h
      · exact hn (.inr h)
      · omega
  refine ⟨h1.keepP k (fun a ha h0 => (h2 a ha h0).2), fun a ha h0 => ⟨Nat.lt_of_lt_of_le (h2 a ha h0).1 k.size, up _ (h2 a ha h0).1 (h2 a ha h0).2⟩, X, h3.keep k (fun i hi => (h4 i hi).2), fun i hi => ⟨Nat.lt_of_lt_of_le (h4 i hi).1 k.size, up _ (h4 i hi).1 (h4 i hi).2⟩⟩

theorem feed_own (w : World) {d : Nat} {A : Option Addr} {s : Df} {D : Nat} {base e : Nat} {B : Option Addr} {m cB : Nat} {l : List UInt8} (hdf : DfA w d A s) (hok : s.Ok D) (ho : Own w base e 1 B m cB (l.map vb)) (hlt : ∀ i, fpt d A i → i < base)
    (hD : D ≤ 1000000000000) (hm : m ≤ 1099511627776) :
    VC Try.prog 13 [.pointer (some ⟨d, 0, none⟩), .slice B m cB] w (fun v w' => ∃ A' Ao no co vals, v = .slice Ao no co ∧ FeedSt w d A s A' Ao no co vals (s.feed l).1 (s.feed l).2 w') :=
  feed_ok w hdf hok (Sl.ofOwn ho) (fun a ha hf => by have := (ho.base_ ha).1; have := hlt _ hf; omega) (fun a ha => (ho.base_ ha).2) (by omega) hm

/-- Stuff, then Feed. -/
theorem stuffed_len (m : BitVec 32) (l : List UInt8) : (stuffed m l).length ≤ 2 * l.length + 2 := by
  have := stuffL_len m l
  simp only [stuffed, List.cons_append, List.length_cons, List.length_append, List.length_nil]
  omega
theorem Own.len8 {w : World} {base e n c : Nat} {A : Option Addr} {l : List UInt8} (h : Own w base e 1 A n c (l.map vb)) : n = l.length := by
  have := (Sl.ofOwn h).len
  rw [List.length_map] at this
  exact this.symm

/-- A row of byte slices that a literal makes. -/
theorem els_one {w : World} {A : Option Addr} {n c : Nat} {l : List UInt8} (hs : Sl w 1 A n (l.map vb)) (hc : n ≤ c) : Els w (fun _ => True) [.slice A n c] [l] := by
  have hl : l.length = n := by simpa using hs.len
  subst hl
  have := (Els.nil w (fun _ => True)).snoc (v := .slice A l.length c) (f := l) ⟨A, c, rfl, hc, hs, fun _ _ _ => trivial⟩
  simpa using this
theorem els_two {w : World} {A B : Option Addr} {n c m e : Nat} {l r : List UInt8} (hs : Sl w 1 A n (l.map vb)) (hc : n ≤ c) (ht : Sl w 1 B m (r.map vb)) (he : m ≤ e) : Els w (fun _ => True) [.slice A n c, .slice B m e] [l, r] := by
  have hl : r.length = m := by simpa using ht.len
  subst hl
  have := (els_one hs hc).snoc (v := .slice B r.length e) (f := r) ⟨B, e, rfl, he, ht, fun _ _ _ => trivial⟩
  simpa using this
end Go.Proofs.Ytgjengcmopgngaa
