/-
  The document's inflate: its reader; the first thing that is wrong; some bits.
-/
import Derived.Test.YtgmopcbfgcagaaaDoorJ10
import Derived.Test.YtgmopcbfgcagaaaDoorB2
namespace Go.Proofs.YtgmopcbfgcagaaaDoor
open Go V

abbrev TRr : TypeId := 64
theorem bitH_low (c : UInt8) (j : Nat) : (bitH false c j).toNat = c.toNat / 2 ^ j % 2 := by
  show (UInt8.ofNat (c.toNat / 2 ^ j % 2)).toNat = _
  have := Nat.mod_lt (c.toNat / 2 ^ j) (show 0 < 2 by omega)
  simp
  omega
theorem open_bitL : ∀ (l : List UInt8) (i : Nat), ((openP false l).getD i 0).toNat = bitL l i
  | [], i => by simp [openP, bitL]
  | c :: l, i => by
    rw [openP_cons]
    have hl := bitsH_len false c
    rcases Nat.lt_or_ge i 8 with h | h
    · rw [List.getD_eq_getElem?_getD, List.getElem?_append_left (by omega)]
      have e : (bitsH false c)[i]? = some (bitH false c i) := by
        unfold bitsH
        rw [List.getElem?_map, List.getElem?_range h]; rfl
      rw [e, Option.getD_some, bitH_low]
      unfold bitL
      rw [show i / 8 = 0 from by omega, show i % 8 = i from by omega]; rfl
    · rw [List.getD_eq_getElem?_getD, List.getElem?_append_right (by omega), hl, ← List.getD_eq_getElem?_getD, open_bitL l (i - 8)]
      unfold bitL
      rw [show i / 8 = (i - 8) / 8 + 1 from by omega, show (i - 8) % 8 = i % 8 from by omega]; rfl
theorem numK_numL (l : List UInt8) (at_ : Nat) : ∀ (n : Nat), numK false (openP false l) at_ n = numL l at_ n
  | 0 => rfl
  | n + 1 => by
    unfold numK numL
    rw [if_neg (by decide), numK_numL l at_ n, open_bitL]
/-- The document's reader: what it has, and what is wrong (0: nothing). -/
def RefV (w : World) (base x bb : Nat) (Ab : Option Addr) (cb : Nat) (A : Option Addr) (c : Nat) (s : IS) (e : Nat) : Prop :=
  Blk w x TRr [.pointer (some ⟨bb, 0, none⟩), .slice A s.all.length c, .int .i64 s.from_, .int .i64 s.most, .int .i64 e] ∧ BitsV w bb Ab cb (openP false s.l) s.at_ false ∧ Own w base T8 1 A s.all.length c (s.all.map vb) ∧ base ≤ x ∧ base ≤ bb

theorem rfail_ok (w : World) {base x bb : Nat} {Ab : Option Addr} {cb : Nat} {A : Option Addr} {c : Nat} {s : IS} {e : Nat} (h : RefV w base x bb Ab cb A c s e) (k : Nat) :
    VC Tryd.prog 27 [.pointer (some ⟨x, 0, none⟩), .int .i64 k] w
      (fun v w' => (v = .int .i64 0 ∧ Blk w' x TRr [.pointer (some ⟨bb, 0, none⟩), .slice A s.all.length c, .int .i64 s.from_, .int .i64 s.most, .int .i64 (if e = 0 then k else e : Nat)]) ∧ Keep (fun k => k = x) w w') := by
  refine VC.of tt_ok Tryd.func27 rfl (by decide +kernel) (Nat.le_of_ble_eq_true rfl) ?_; (conv => whnf)
  refine VLoad.by_ (h.1.cell 4) ?_
  (conv => whnf)
  refine VCmp.mk (fun g => ?_) (fun g => ?_) <;> (conv => whnf)
  · refine VStore.one h.1 (by simp) ?_
    intro w1 hb k1 _
    (conv => whnf)
    rw [if_pos (by omega)]
    exact ⟨⟨rfl, hb⟩, k1⟩
  · rw [if_neg (by omega)]
    exact ⟨⟨rfl, h.1⟩, Keep.refl _ _⟩

theorem RefV.failed {w w' : World} {base x bb : Nat} {Ab : Option Addr} {cb : Nat} {A : Option Addr} {c : Nat} {s : IS} {e e' : Nat} (h : RefV w base x bb Ab cb A c s e) (hb : Blk w' x TRr [.pointer (some ⟨bb, 0, none⟩), .slice A s.all.length c, .int .i64 s.from_, .int .i64 s.most, .int .i64 e'])
    (k : Keep (fun k => k = x) w w') (hA : ∀ a, Ab = some a → a.block ≠ x) : RefV w' base x bb Ab cb A c s e' :=
  ⟨hb, ⟨h.2.1.1.keep k (fun e => h.1.ne h.2.1.1 (by decide) e.symm), h.2.1.2.keep k hA⟩, h.2.2.1.keep k (fun a ha e => (h.2.2.1.ty ha).ne h.1.ty (by decide) e), h.2.2.2⟩

set_option maxHeartbeats 1000000 in
theorem rbits_ok (w : World) {base x bb : Nat} {Ab : Option Addr} {cb : Nat} {A : Option Addr} {c : Nat} {s : IS} {e : Nat} (h : RefV w base x bb Ab cb A c s e) (hA : ∀ a, Ab = some a → a.block ≠ x ∧ a.block ≠ bb) (hn : s.l.length ≤ 1000000) (ha : s.at_ ≤ 100000000) {n : Nat} (h32 : n ≤ 32) :
    VC Tryd.prog 39 [.pointer (some ⟨x, 0, none⟩), .int .i64 n] w
      (fun v w' => (if e = 0 then (if s.at_ + n ≤ 8 * s.l.length then v = .int .i64 (numL s.l s.at_ n : Nat) ∧ RefV w' base x bb Ab cb A c { s with at_ := s.at_ + n } 0 else v = .int .i64 0 ∧ RefV w' base x bb Ab cb A c s 2) else v = .int .i64 0 ∧ RefV w' base x bb Ab cb A c s e) ∧ Keep (fun k => k = x ∨ k = bb) w w') := by
  have hop : (openP false s.l).length = 8 * s.l.length := openP_len _ _
  refine VC.of tt_ok Tryd.func39 rfl (by decide +kernel) (Nat.le_of_ble_eq_true rfl) ?_; (conv => whnf)
  refine VLoad.by_ (h.1.cell 4) ?_
  (conv => whnf)
  refine VCmp.mk (fun g => ?_) (fun g => ?_) <;> (conv => whnf)
  · rw [if_neg (by omega)]
    exact ⟨⟨rfl, h⟩, Keep.refl _ _⟩
  obtain rfl : e = 0 := by omega
  refine VLoad.by_ (h.1.cell 0) ?_
  (conv => whnf)
  refine (bitsTake_ok w h.2.1 (openP_bits _ _) (by omega) (by omega) h32 (fun a ha => (hA a ha).2)).mono ?_
  rintro v w1 hv
  rw [hop] at hv
  by_cases hle : s.at_ + n ≤ 8 * s.l.length
  · rw [if_pos hle] at hv
    obtain ⟨rfl, hb, k1⟩ := hv
    rw [numK_numL]
    have hxb := h.1.ne h.2.1.1 (by decide)
    (conv => whnf)
    rw [if_pos rfl, if_pos hle]
    exact ⟨⟨rfl, h.1.keep k1 hxb, hb, h.2.2.1.keep k1 (fun a ha e => (h.2.2.1.ty ha).ne h.2.1.1.ty (by decide) e), h.2.2.2⟩, k1.mono fun _ _ h => .inr h⟩
  · rw [if_neg hle] at hv
    obtain ⟨rfl, k1⟩ := hv
    have h1 : RefV w1 base x bb Ab cb A c s 0 := ⟨h.1.keepNo k1, h.2.1.keepNo k1, h.2.2.1.keepNo k1, h.2.2.2⟩
    (conv => whnf)
    refine (rfail_ok w1 h1 2).mono ?_
    rintro v w2 ⟨⟨rfl, hb⟩, k2⟩
    (conv => whnf)
    rw [if_pos rfl, if_neg hle]
    exact ⟨⟨rfl, h1.failed hb k2 (fun a ha => (hA a ha).1)⟩, (k1.mono fun _ _ h => h.elim).trans (k2.mono fun _ _ h => .inl h)⟩
end Go.Proofs.YtgmopcbfgcagaaaDoor
