/-
  Frames that are gathered: of several feedings one behind the other.
-/
import Derived.Test.YtgjengcmopgngaaSt8
namespace Go.Proofs.Ytgjengcmopgngaa
open Go V

def accX (wB : World) (d : Nat) (w : World) (A : Option Addr) (i : Nat) : Prop := wB.heap.size ≤ i ∧ i < w.heap.size ∧ ¬ fpt d A i ∧ Ty w i T8

structure Acc (wB : World) (d : Nat) (w : World) (A : Option Addr) (s : Df) (Al : Option Addr) (nl cl : Nat) (vals : List Value) (fs : List (List UInt8)) : Prop where
  df : DfA w d A s
  out : Own w wB.heap.size TS8 1 Al nl cl vals
  len : nl = vals.length
  els : Els w (accX wB d w A) vals fs
  keep : Keep (fun k => k = d) wB w
  buf : ∀ a, A = some a → wB.heap.size ≤ a.block

theorem Acc.no_len {wB : World} {d : Nat} {w : World} {A : Option Addr} {s : Df} {Al : Option Addr} {nl cl : Nat} {vals : List Value} {fs : List (List UInt8)} (h : Acc wB d w A s Al nl cl vals fs) : nl = fs.length := by
  rw [h.len, h.els.1]

theorem accX_not_own {wB : World} {d : Nat} {w w1 : World} {A Al : Option Addr} {nl cl base : Nat} {vals : List Value} (ho : Own w1 base TS8 1 Al nl cl vals) {i : Nat} (ht : Ty w1 i T8) : ¬ ownS Al i := by
  rintro ⟨a, ha, rfl⟩
  exact Ty.ne (ho.ty ha) ht (by decide) rfl

/-- Behind a feeding, ahead of the append. -/
theorem Acc.fed {wB : World} {d : Nat} {w : World} {A : Option Addr} {s : Df} {Al : Option Addr} {nl cl : Nat} {vals : List Value} {fs : List (List UInt8)} (h : Acc wB d w A s Al nl cl vals fs)
    {A' Ao : Option Addr} {no co : Nat} {v2 : List Value} {s' : Df} {f2 : List (List UInt8)} {w1 : World} (hf : FeedSt w d A s A' Ao no co v2 s' f2 w1) :
    Own w1 wB.heap.size TS8 1 Al nl cl vals ∧ Els w1 (accX wB d w1 A') (vals ++ v2) (fs ++ f2) := by
  obtain ⟨hdf, hout, hlen, hels, hkeep, hbuf⟩ := h
  obtain ⟨n0, c0, hb, ho⟩ := hdf
  have hs0 := hkeep.size
  have hs1 := hf.keep.size
  refine ⟨hout.keep hf.keep ?_, ?_⟩
  · rintro a ha (e | ⟨a0, h0, e⟩)
    · exact hout.type_ne ha hb (by decide) e
    · exact Ty.ne (hout.ty ha) (ho.ty h0) (by decide) e.symm
  · refine Els.append ?_ ?_
    · refine (hels.keep hf.keep (fun i hi => hi.2.2.1)).mono ?_
      rintro i ⟨h1, h2, h3, h4⟩
      refine ⟨h1, by omega, ?_, h4.keep hf.keep h3⟩
      rintro (e | ⟨a, ha, rfl⟩)
      · exact h3 (.inl e)
      · rcases hf.buf a ha with h | h
        · exact h3 (.inr h)
        · omega
    · refine hf.els.mono ?_
      rintro i ⟨h1, h2, h3, h4, h5⟩
      refine ⟨?_, h2, fun e => e.elim h3 h4, h5⟩
      rcases h1 with ⟨a, ha, rfl⟩ | h1
      · exact hbuf a ha
      · omega

theorem Acc.next {wB : World} {d : Nat} {w : World} {A : Option Addr} {s : Df} {Al : Option Addr} {nl cl : Nat} {vals : List Value} {fs : List (List UInt8)} (h : Acc wB d w A s Al nl cl vals fs)
    {A' Ao : Option Addr} {no co : Nat} {v2 : List Value} {s' : Df} {f2 : List (List UInt8)} {w1 : World} (hf : FeedSt w d A s A' Ao no co v2 s' f2 w1)
    {Al' : Option Addr} {cl' : Nat} {w2 : World} (ho2 : Own w2 wB.heap.size TS8 1 Al' (nl + no) cl' (vals ++ v2)) (hk2 : Keep (ownS Al) w1 w2) : Acc wB d w2 A' s' Al' (nl + no) cl' (vals ++ v2) (fs ++ f2) := by
  obtain ⟨ho1, he1⟩ := h.fed hf
  have hs0 := h.keep.size
  have hs1 := hf.keep.size
  obtain ⟨n0, c0, hb, ho⟩ := hf.df
  refine ⟨hf.df.keep hk2 ?_, ho2, by rw [List.length_append, h.len, hf.len], ?_, ?_, ?_⟩
  · rintro i (rfl | ⟨a, ha, rfl⟩) ⟨a0, h0, e⟩
    · exact ho1.type_ne h0 hb (by decide) e
    · exact Ty.ne (ho1.ty h0) (ho.ty ha) (by decide) e
  · refine (he1.keep hk2 (fun i hi => accX_not_own (wB := wB) (d := d) (w := w) (A := A) ho1 hi.2.2.2)).mono ?_
    rintro i ⟨h1, h2, h3, h4⟩
    exact ⟨h1, Nat.lt_of_lt_of_le h2 hk2.size, h3, h4.keep hk2 (accX_not_own (wB := wB) (d := d) (w := w) (A := A) ho1 h4)⟩
  · refine ⟨hk2.os.trans (hf.keep.os.trans h.keep.os), hk2.tape.trans (hf.keep.tape.trans h.keep.tape), hk2.output.trans (hf.keep.output.trans h.keep.output), Nat.le_trans hs0 (Nat.le_trans hs1 hk2.size), fun i hi hn => ?_⟩
    rw [hk2.block i (by omega) ?_, hf.keep.block i (by omega) ?_, h.keep.block i hi hn]
    · rintro (e | ⟨a, ha, rfl⟩)
      · exact hn e
      · have := h.buf a ha; omega
    · rintro ⟨a, ha, rfl⟩
      have := (ho1.base_ ha).1
      omega
  · intro a ha
    rcases hf.buf a ha with ⟨a0, h0, e⟩ | e
    · have := h.buf a0 h0; omega
    · omega

/-- append of rows of byte slices. -/
theorem appS {w : World} {ty : TypeId} {K : Value → World → Prop} {base : Nat} {A : Option Addr} {n c : Nat} {xs : List Value} {B : Option Addr} {m d : Nat} {ys : List Value}
    (hown : Own w base TS8 1 A n c xs) (hsrc : Sl w 1 B m ys) (h1 : ∀ u ∈ ys, u.oneCell' = true) (hlen : n + m ≤ 1000000000000) (hbase : base ≤ w.heap.size)
    (hK : ∀ A' c' w', Own w' base TS8 1 A' (n + m) c' (xs ++ ys) → Keep (ownS A) w w' → (∀ a, A' = some a → (∃ a0, A = some a0 ∧ a.block = a0.block) ∨ a.block = w.heap.size) → K (.slice A' (n + m) c') w') :
    VApp Try.prog w #[TSS, TSS] ty (.slice A n c) (.slice B m d) K :=
  VApp.own tt_ok (it := ty32) (ei := ty22) rfl rfl rfl (size := 1) rfl rfl (by omega) hown hsrc h1 (by show (n + m) * 24 ≤ _; omega) (by omega) hbase hK
end Go.Proofs.Ytgjengcmopgngaa
