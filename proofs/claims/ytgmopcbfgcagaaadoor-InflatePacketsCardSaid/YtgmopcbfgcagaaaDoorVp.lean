/-
  More lemmas that meet obligations: elements of a slice, facts carried over a step, elements of more cells than one.
-/
import Derived.Test.YtgmopcbfgcagaaaDoorVm
import Derived.Laws.BytesArg
namespace Go.Proofs.YtgmopcbfgcagaaaDoor.V
open Go Go.RowKit

theorem Keep.keepNo {S : Nat → Prop} {a b c : World} (h : Keep S a b) (k : Keep No b c) : Keep S a c := h.trans (k.mono fun _ _ h => h.elim)
theorem Blk.keepNo {w w' : World} {b : Nat} {t : TypeId} {cs : List Value} (h : Blk w b t cs) (k : Keep No w w') : Blk w' b t cs := h.keep k id
theorem Ty.keepNo {w w' : World} {b : Nat} {t : TypeId} (h : Ty w b t) (k : Keep No w w') : Ty w' b t := h.keep k id
theorem FrAt.keepNo {X : Nat → Prop} {w w' : World} {v : Value} {f : List UInt8} (h : FrAt w X v f) (k : Keep No w w') : FrAt w' X v f := h.keep k (fun _ _ => id)
theorem Els.keepNo {X : Nat → Prop} {w w' : World} {vals : List Value} {fs : List (List UInt8)} (h : Els w X vals fs) (k : Keep No w w') : Els w' X vals fs := h.keep k (fun _ _ => id)

theorem Own.le {w : World} {base e size n c : Nat} {A : Option Addr} {xs : List Value} (h : Own w base e size A n c xs) : n ≤ c := by
  rcases h.2 with ⟨hv, h0⟩ | ⟨g, cap, cur, hv, hg, hh, r⟩
  · injection hv; omega
  · injection hv with _ _ hc; have := r.1; omega

theorem cell_lt' {w : World} {a : Addr} {v : Value} (h : w.cell? a = some v) : a.block < w.heap.size := by
  rcases Nat.lt_or_ge a.block w.heap.size with h1 | h1
  · exact h1
  · unfold World.cell? at h; rw [Array.getElem?_eq_none h1] at h; cases h
theorem Sl.lt {w : World} {size n : Nat} {A : Option Addr} {xs : List Value} (h : Sl w size A n xs) (hp : 0 < n * size) {a : Addr} (ha : A = some a) : a.block < w.heap.size := by
  obtain ⟨b, o, hA, hc⟩ := h.at_ (by rcases Nat.eq_zero_or_pos n with e | e; (· subst e; simp at hp); exact e)
  have := cell_lt' (hc 0 _ (List.getElem?_eq_getElem (by rw [h.1]; exact hp)))
  rw [ha] at hA
  cases hA
  exact this

/-- The place of an element of one cell, and what is there. -/
theorem VIdx.sl {w : World} {A : Option Addr} {n : Nat} {l : List UInt8} (hs : Sl w 1 A n (l.map vb)) {i : Int} (j : Nat) (hj : (j : Int) = i) (hn : j < n) {K : Addr → Prop}
    (hK : ∀ b o, A = some ⟨b, o, none⟩ → w.cell? ⟨b, o + j, none⟩ = some (vb (l.getD j 0)) → K ⟨b, o + j, none⟩) : VIdx A n i 1 K := by
  obtain ⟨b, o, hA, hc⟩ := hs.at_ (by omega)
  have hl : l.length = n := by simpa using hs.len
  refine VIdx.one j hj hn hA (hK b o hA (hc j _ ?_))
  rw [List.getElem?_map, List.getElem?_eq_getElem (by omega), List.getD_eq_getElem?_getD, List.getElem?_eq_getElem (by omega)]
  rfl

/-- A part of a slice of bytes. -/
theorem Sl.cut8 {w : World} {n c l h : Nat} {A : Option Addr} {xs : List UInt8} (hs : Sl w 1 A n (xs.map vb)) (hl : l ≤ h) (hh : h ≤ n) (hc : n ≤ c) {A' : Option Addr}
    (hA : A' = if c = l then A else A.map (·.add (l * 1))) : Sl w 1 A' (h - l) (((xs.take h).drop l).map vb) := by
  have := Sl.cut hs hl hh hc hA
  rwa [Nat.mul_one, Nat.mul_one, ← List.map_take, ← List.map_drop] at this
theorem VIdx.mul {A : Option Addr} {n size : Nat} {i : Int} {K : Addr → Prop} (j : Nat) (hj : (j : Int) = i) (hn : j < n) {b o : Nat} (hA : A = some ⟨b, o, none⟩) (hK : K ⟨b, o + j * size, none⟩) : VIdx A n i size K :=
  ⟨⟨b, o, j, hA, hj, hn, hK⟩⟩

theorem VLoads.keepBlk {w : World} {b e n : Nat} {cs : List Value} {K : List Value → Prop} (hb : Blk w b e cs) (hl : cs.length = n) (hK : K cs) : VLoads (fun a v => ∀ x, Keep No w x → x.cell? a = some v) ⟨b, 0, none⟩ n K :=
  ⟨cs, hl, fun j v hj x hx => by rw [addr_add, (hb.keepNo hx).cell]; simpa using hj, hK⟩
/-- Two cells. -/
theorem VLoads.two {L : Addr → Value → Prop} {b o : Nat} {u v : Value} {K : List Value → Prop} (h0 : L ⟨b, o, none⟩ u) (h1 : L ⟨b, o + 1, none⟩ v) (hK : K [u, v]) : VLoads L ⟨b, o, none⟩ 2 K := by
  refine ⟨[u, v], rfl, fun j x hj => ?_, hK⟩
  match j, hj with
  | 0, hj =>
    simp only [List.getElem?_cons_zero, Option.some.injEq] at hj
    subst hj; exact h0
  | 1, hj =>
    simp only [List.getElem?_cons_succ, List.getElem?_cons_zero, Option.some.injEq] at hj
    subst hj; rw [addr_add]; exact h1
  | j + 2, hj => simp at hj

/-- A store into a block of the call's own, at whatever place of it; only that block turns. -/
theorem VStore.at_ {w : World} {b off e : Nat} {cs vs : List Value} {K : World → Prop} (hb : Blk w b e cs) (hl : off + vs.length ≤ cs.length)
    (hK : ∀ w', Blk w' b e (cs.take off ++ vs ++ cs.drop (off + vs.length)) → Keep (fun k => k = b) w w' → w'.heap.size = w.heap.size → K w') : VStore w b off vs false K :=
  ⟨cs, e, hb, hl, fun w' h1 h2 h3 => hK w' h1 h2 h3⟩

theorem Keep.fresh_ {w0 w w' : World} {b : Nat} (h0 : Keep No w0 w) (k : Keep (fun k => k = b) w w') (hb : w0.heap.size ≤ b) : Keep No w0 w' := h0.toNo k (fun i e => by subst e; exact hb)

/-- The text of bytes. -/
def sb (l : List UInt8) : ByteArray := ⟨l.toArray⟩
theorem sb_inj {l r : List UInt8} (h : sb l = sb r) : l = r := by
  have := congrArg (fun x => x.data.toList) h
  simpa [sb] using this
theorem sb_of (s : ByteArray) : s = sb s.data.toList := by
  obtain ⟨⟨l⟩⟩ := s
  rfl
theorem sb_size (l : List UInt8) : (sb l).size = l.length := by simp [sb, ByteArray.size]
theorem strOfNums_map (l : List UInt8) : strOfNums (l.map fun x => (x.toNat : Int)) = sb l := by
  unfold strOfNums sb
  congr 2
  rw [List.map_map]
  conv => rhs; rw [← List.map_id l]
  exact List.map_congr_left fun x _ => by simp

theorem run_toStr {P : Program} (w : World) {src dst e : TypeId} (hs : P.underlying src = some (.slice e)) (he : P.underlying e = some (.int .u8)) (hd : P.underlying dst = some .string) {A : Option Addr} {n : Nat} (c : Nat) {l : List UInt8} (h : Sl w 1 A n (l.map vb)) :
    (convert src dst (.slice A n c)).run P w = .ok (.string (sb l)) w := by
  have hl : l.length = n := by simpa using h.len
  cases A with
  | none =>
    have hn : n = 0 := by
      rcases h.2 with h | ⟨b, o, h, _⟩
      · exact h
      · cases h
    subst hn
    obtain rfl : l = [] := List.eq_nil_of_length_eq_zero hl
    exact run_convert_bytes_nil w src e hs he 0 c dst hd
  | some a =>
    rcases Nat.eq_zero_or_pos n with hn | hn
    · subst hn
      obtain rfl : l = [] := List.eq_nil_of_length_eq_zero hl
      rw [run_convert_bytes_string w src dst e _ 0 c hs he hd, run_bytesToString w a 0 c [] (by simp [loadCells, loadCellsFrom])]
      rfl
    · obtain ⟨b, o, hA, hc⟩ := h.at_ hn
      cases hA
      have := run_convert_bytes_arg (P := P) w src e hs he b o n c (l.map fun x => (x.toNat : Int)) (by simpa using hl) (fun i hi => by
        have := hc i (vb (l.getD i 0)) (by rw [List.getElem?_map, List.getElem?_eq_getElem (by omega), List.getD_eq_getElem?_getD, List.getElem?_eq_getElem (by omega)]; rfl)
        rw [this, List.getD_eq_getElem?_getD, List.getD_eq_getElem?_getD, List.getElem?_map, List.getElem?_eq_getElem (by omega)]
        rfl) dst hd
      rw [this, strOfNums_map]

theorem vtup_two (a b : Value) : vtup [a, b] = .tuple #[a, b] := rfl
end Go.Proofs.YtgmopcbfgcagaaaDoor.V
namespace Go.Proofs.YtgmopcbfgcagaaaDoor
open Go V
abbrev TStr : TypeId := 9
theorem VConv.toStr {w : World} {A : Option Addr} {n c : Nat} {l : List UInt8} {K : Value → World → Prop} (h : Sl w 1 A n (l.map vb)) (hK : K (.string (sb l)) w) : VConv Tryd.prog w TS8 TStr (.slice A n c) K :=
  ⟨_, _, run_toStr w Tryd.underlying22 Tryd.underlying5 Tryd.underlying9 c h, hK⟩
end Go.Proofs.YtgmopcbfgcagaaaDoor
