/-
  The reference's MD4.
-/
import Derived.Test.YtoeijgbjgbgelaaDoorM3
import Derived.Test.YtoeijgbjgbgelaaDoorVm
import Derived.Deep.OwnRows
namespace Go.Proofs.YtoeijgbjgbgelaaDoor.Md
open Go V

theorem pad_ok (w : World) {A : Option Addr} {n c : Nat} {l : List UInt8} (hs : Sl w 1 A n (l.map vb)) (hn : n ≤ 1000000000) :
    VC Tryd.prog 15 [.slice A n c, .bool true] w (fun v w' => ∃ A' c', v = .slice A' (mdPad l).length c' ∧ Own w' w.heap.size T8 1 A' (mdPad l).length c' ((mdPad l).map vb) ∧ Keep No w w') := by
  have hl : l.length = n := by simpa using hs.len
  have hpz := padZ_lt n
  refine VC.of tt_ok Tryd.func15 rfl (by decide +kernel) (Nat.le_of_ble_eq_true rfl) ?_; (conv => whnf)
  refine (copy_ok w hs (by omega)).mono ?_
  rintro v w1 ⟨A1, c1, rfl, ho1, hk1⟩
  (conv => whnf)
  refine VFill.by_ rfl ?_
  (conv => whnf)
  refine ⟨fun w2 hb2 hk2 => ?_⟩
  (conv => whnf)
  refine app8one (w0 := w) (x := 0x80) (hk1.trans hk2) (ho1.keepNo hk2) hb2 rfl (by omega) ?_
  intro A3 c3 w3 ho3 hk3 _ _
  (conv => whnf)
  refine VLoop.by_ tt_ok (S := Nat × Option Addr × Nat) (fun | (k, A', c') => [(0, .slice A n c), (1, .bool true), (5, .slice A' (n + 1 + k) c')])
    (fun | (k, A', c') => fun w' => k ≤ padZ n ∧ Own w' w.heap.size T8 1 A' (n + 1 + k) c' ((l ++ [0x80] ++ List.replicate k 0).map vb) ∧ Keep No w w') (fun | (k, _) => padZ n - k)
    (0, A3, c3) ⟨rfl, rfl, rfl, trivial⟩ ⟨Nat.zero_le _, by simpa using ho3, hk3⟩ ?_
  rintro ⟨k, A4, c4⟩ w4 ⟨hk, ho4, hk4⟩
  (conv => whnf)
  refine VReq.mk (by omega) ?_
  refine VRes.to (congrArg (Value.int .i64) (show (((n + 1 + k : Nat) : Int)).tmod 64 = (((n + 1 + k) % 64 : Nat) : Int) from rfl)) ?_
  (conv => whnf)
  refine VCmp.mk (fun h => ?_) (fun h => ?_) <;> (conv => whnf)
  · have hlt : k < padZ n := by
      rcases Nat.lt_or_ge k (padZ n) with h1 | h1
      · exact h1
      · have : k = padZ n := by omega
        subst this
        have := padZ_spec n
        omega
    refine VFill.by_ rfl ?_
    (conv => whnf)
    refine ⟨fun w5 hb5 hk5 => ?_⟩
    (conv => whnf)
    refine app8one (w0 := w) (x := 0) (hk4.trans hk5) (ho4.keepNo hk5) hb5 rfl (by omega) ?_
    intro A6 c6 w6 ho6 hk6 _ _
    (conv => whnf)
    refine ⟨(k + 1, A6, c6), ⟨rfl, rfl, rfl, trivial⟩, ⟨by omega, ?_, hk6⟩, by dsimp only; omega⟩
    have : l ++ [0x80] ++ List.replicate (k + 1) 0 = (l ++ [0x80] ++ List.replicate k 0) ++ [(0 : UInt8)] := by
      rw [List.replicate_succ', ← List.append_assoc]
    rw [this]
    exact ho6
  · have hke : k = padZ n := by
      rcases Nat.lt_or_ge k (padZ n) with h1 | h1
      · exact absurd (padZ_least n k h1) (by omega)
      · omega
    subst hke
    refine VRes.u64 (by omega) ?_
    (conv => whnf)
    refine VRes.u64 (by omega) ?_
    (conv => whnf)
    refine VLoop.by_ tt_ok (S := Nat × Option Addr × Nat) (fun | (k, A', c') => [(1, .bool true), (5, .slice A' (n + 1 + padZ n + k) c'), (6, .int .u64 ((n : Int) * 8)), (7, .int .i64 k)])
      (fun | (k, A', c') => fun w' => k ≤ 8 ∧ Own w' w.heap.size T8 1 A' (n + 1 + padZ n + k) c' ((l ++ [0x80] ++ List.replicate (padZ n) 0 ++ (List.range k).map (padByte n)).map vb) ∧ Keep No w w') (fun | (k, _) => 8 - k)
      (0, A4, c4) ⟨rfl, rfl, rfl, rfl, trivial⟩ ⟨Nat.zero_le _, by simpa using ho4, hk4⟩ ?_
    rintro ⟨k, A5, c5⟩ w5 ⟨hk8, ho5, hk5⟩
    (conv => whnf)
    refine VCmp.mk (fun h8 => ?_) (fun h8 => ?_) <;> (conv => whnf)
    · refine VRes.i64 (by omega) ?_
      (conv => whnf)
      refine VRes.u64 (by omega) ?_
      (conv => whnf)
      refine VReq.mk (by omega) ?_
      (conv => whnf)
      refine VRes.shrN (N := n * 8) (s := 8 * k) (by omega) (by omega) (by show 8 * k ≤ 64; omega) ?_
      (conv => whnf)
      refine VRes.byte rfl ?_
      (conv => whnf)
      refine VFill.by_ rfl ?_
      (conv => whnf)
      refine ⟨fun w6 hb6 hk6 => ?_⟩
      (conv => whnf)
      refine app8one (w0 := w) (x := padByte n k) (hk5.trans hk6) (ho5.keepNo hk6) hb6 rfl (by omega) ?_
      intro A7 c7 w7 ho7 hk7 _ _
      (conv => whnf)
      refine VRes.i64 (by omega) ?_
      (conv => whnf)
      refine ⟨(k + 1, A7, c7), ⟨rfl, rfl, rfl, rfl, trivial⟩, ⟨by omega, ?_, hk7⟩, by dsimp only; omega⟩
      have e : (List.range (k + 1)).map (padByte n) = (List.range k).map (padByte n) ++ [padByte n k] := by rw [List.range_succ, List.map_append]; rfl
      rw [e, ← List.append_assoc]
      exact ho7
    · have hk88 : k = 8 := by omega
      subst hk88
      have e : mdPad l = l ++ [0x80] ++ List.replicate (padZ n) 0 ++ (List.range 8).map (padByte n) := by unfold mdPad; rw [hl]
      have hlen : (mdPad l).length = n + 1 + padZ n + 8 := by rw [mdPad_length, hl]; omega
      rw [← e, ← hlen] at ho5
      rw [hlen]
      rw [hlen] at ho5
      exact ⟨A5, c5, rfl, ho5, hk5⟩

theorem left_ok (w : World) (x : BitVec 32) (k : Nat) (h0 : 0 < k) (hk : k < 32) :
    VC Tryd.prog 16 [vw x, .int .i64 k] w (fun v w' => v = vw (rotl x k) ∧ w = w') := by
  refine VC.of tt_ok Tryd.func16 rfl (by decide +kernel) (Nat.le_of_ble_eq_true rfl) ?_; (conv => whnf)
  refine VRes.u64 (by omega) ?_
  (conv => whnf)
  refine VReq.mk (by omega) ?_
  (conv => whnf)
  refine VRes.shl32 rfl rfl ?_
  (conv => whnf)
  refine VRes.i64 (by omega) ?_
  (conv => whnf)
  refine VRes.u64 (by omega) ?_
  (conv => whnf)
  refine VReq.mk (by omega) ?_
  (conv => whnf)
  refine VRes.shr32 (k := 32 - k) (by omega) ?_
  (conv => whnf)
  refine VRes.or32 rfl rfl ?_
  (conv => whnf)
  exact ⟨rfl, rfl⟩

abbrev T32 : TypeId := 44
abbrev TI : TypeId := 3
abbrev TS32 : TypeId := 45
def iv (n : Nat) : Value := .int .i64 (n : Int)
def ordV : List Value := mdOrd.map iv
def shfV : List Value := mdTurn.map iv
theorem iv_getD {l : List Nat} {i : Nat} (h : i < l.length) : (l.map iv)[i]? = some (iv (l.getD i 0)) := by
  rw [List.getElem?_map, getD_of (d := 0) h]; rfl

theorem VMake.row {P : Program} {w : World} {t e : TypeId} {z : Value} {bytes n : Nat} {K : Value → World → Prop} (ht : P.underlying t = some (.slice e)) (hinfo : (P.info? e).map (fun i => (i.zero, i.size, i.bytes)) = some (some z, 1, bytes)) (hz1 : z.cells = #[z])
    (hbytes : bytes * n ≤ 281474976710656) (h63 : n ≤ 9223372036854775807)
    (hK : ∀ w', Blk w' w.heap.size e (List.replicate n z) → Keep No w w' → K (.slice (some ⟨w.heap.size, 0, none⟩) n n) w') : VMake P w t (.int .i64 (n : Int)) (.int .i64 (n : Int)) K := by
  refine ⟨⟨_, _, run_make_row' t e z bytes ht hinfo hz1 .i64 .i64 n hbytes h63 w, hK _ ?_ ⟨rfl, rfl, rfl, ?_, fun k hk _ => ?_⟩⟩⟩
  · show (w.heap.push _)[w.heap.size]? = _
    rw [Array.getElem?_push, if_pos rfl]
    have : madeCells #[z] n = (List.replicate n z).toArray := by
      apply Array.ext
      · simp [madeCells]
      · intro i h1 h2
        simp [madeCells, Nat.mod_one]
    rw [this]
  · show _ ≤ (w.heap.push _).size
    simp
  · show (w.heap.push _)[k]? = _
    rw [Array.getElem?_push, if_neg (by omega)]

theorem mdOrd_lt' (k : Nat) (hk : k < 48) : mdOrd.getD k 0 < 16 := by
  have h : ∀ j : Fin 48, mdOrd.getD j.val 0 < 16 := by decide
  exact h ⟨k, hk⟩

structure RB (w w4 w' : World) (b3 b5 b6 : Nat) (A : Option Addr) (P : List UInt8) (cs : List Value) : Prop where
  st : Blk w' b3 T32 cs
  od : Blk w' b5 TI ordV
  sh : Blk w' b6 TI shfV
  pd : Sl w' 1 A P.length (P.map vb)
  kp : Keep No w w'
  sz : w4.heap.size ≤ w'.heap.size
structure RC (w w4 : World) (b3 b5 b6 : Nat) (A : Option Addr) : Prop where
  h3 : b3 < w4.heap.size
  h5 : b5 < w4.heap.size
  h6 : b6 < w4.heap.size
  hA : ∀ a, A = some a → a.block < w4.heap.size
  hw : w.heap.size ≤ w4.heap.size
theorem RB.keep {w w4 w' w'' : World} {b3 b5 b6 : Nat} {A : Option Addr} {P : List UInt8} {cs : List Value} (h : RB w w4 w' b3 b5 b6 A P cs) (hc : RC w w4 b3 b5 b6 A) {S : Nat → Prop} (k : Keep S w' w'') (hS : ∀ i, S i → w4.heap.size ≤ i) : RB w w4 w'' b3 b5 b6 A P cs :=
  ⟨h.st.keep k (fun x => by have := hS _ x; have := hc.h3; omega), h.od.keep k (fun x => by have := hS _ x; have := hc.h5; omega), h.sh.keep k (fun x => by have := hS _ x; have := hc.h6; omega),
    h.pd.keep k (fun a ha x => by have := hS _ x; have := hc.hA a ha; omega), h.kp.toNo k (fun i x => Nat.le_trans hc.hw (hS i x)), Nat.le_trans h.sz k.size⟩
theorem RB.keepNo {w w4 w' w'' : World} {b3 b5 b6 : Nat} {A : Option Addr} {P : List UInt8} {cs : List Value} (h : RB w w4 w' b3 b5 b6 A P cs) (hc : RC w w4 b3 b5 b6 A) (k : Keep No w' w'') : RB w w4 w'' b3 b5 b6 A P cs :=
  h.keep hc k (fun _ x => x.elim)

theorem RB.store {w w4 w' w'' w3 : World} {b5 b6 : Nat} {A : Option Addr} {P : List UInt8} {cs cs' : List Value} (h : RB w w4 w' w.heap.size b5 b6 A P cs) (hc : RC w w4 w.heap.size b5 b6 A) (k : Keep No w' w'') (k3 : Keep (fun k => k = w.heap.size) w'' w3)
    (hb : Blk w3 w.heap.size T32 cs') (h5 : b5 ≠ w.heap.size := by omega) (h6 : b6 ≠ w.heap.size := by omega) (hA : ∀ a, A = some a → a.block ≠ w.heap.size := by assumption) : RB w w4 w3 w.heap.size b5 b6 A P cs' := by
  have h' := h.keepNo hc k
  exact ⟨hb, h'.od.keep k3 h5, h'.sh.keep k3 h6, h'.pd.keep k3 hA, h'.kp.toNo k3 (fun i x => by omega), Nat.le_trans h'.sz k3.size⟩

set_option maxRecDepth 4000 in
theorem refMd4_ok (w : World) {A : Option Addr} {n c : Nat} {l : List UInt8} (hs : Sl w 1 A n (l.map vb)) (hn : n ≤ 1000000000) :
    VC Tryd.prog 10 [.slice A n c] w (fun v w' => ∃ A' c', v = .slice A' 16 c' ∧ Own w' w.heap.size T8 1 A' 16 c' ((md4 l).map vb) ∧ Keep No w w') := by
  have hl : l.length = n := by simpa using hs.len
  refine VC.of tt_ok Tryd.func10 rfl (by decide +kernel) (Nat.le_of_ble_eq_true rfl) ?_; (conv => whnf)
  refine VFill.by_ rfl ?_
  (conv => whnf)
  refine ⟨fun w1 hb1 hk1 => ?_⟩
  (conv => whnf)
  refine (pad_ok w1 (hs.keepNo hk1) hn).mono ?_
  rintro v w2 ⟨A2, c2, rfl, ho2, hk2⟩
  (conv => whnf)
  refine VFill.by_ rfl ?_
  (conv => whnf)
  refine ⟨fun w3 hb3 hk3 => ?_⟩
  (conv => whnf)
  refine VFill.by_ rfl ?_
  (conv => whnf)
  refine ⟨fun w4 hb4 hk4 => ?_⟩
  (conv => whnf)
  change Blk w3 _ TI ordV at hb3
  change Blk w4 _ TI shfV at hb4
  have hsp := Sl.ofOwn ho2
  have hP := mdPad_mod l
  have hPl : (mdPad l).length ≤ 1000000100 := by rw [mdPad_length, hl]; have := padZ_lt n; omega
  have hbb : ∀ a, A2 = some a → a.block < w2.heap.size := fun a ha => (ho2.base_ ha).2
  have hAne : ∀ a, A2 = some a → a.block ≠ w.heap.size := fun a ha => by have := (ho2.base_ ha).1; have := Blk.lt hb1; omega
  generalize hPd : mdPad l = P at *
  have hlt1 := Blk.lt hb1
  have hlt3 := Blk.lt hb3
  have hlt4 := Blk.lt hb4
  have hs1 := hk1.size
  have hs2 := hk2.size
  have hs3 := hk3.size
  have hs4 := hk4.size
  have hc : RC w w4 w.heap.size w2.heap.size w3.heap.size A2 := ⟨by omega, by omega, by omega, fun a ha => by have := hbb a ha; omega, by omega⟩
  refine VLoop.by_ tt_ok (S := Nat) (fun j => [(3, .slice (some ⟨w.heap.size, 0, none⟩) 4 4), (4, .slice A2 P.length c2), (5, .slice (some ⟨w2.heap.size, 0, none⟩) 48 48), (6, .slice (some ⟨w3.heap.size, 0, none⟩) 12 12), (7, .int .i64 (64 * j : Nat))])
    (fun j w' => 64 * j ≤ P.length ∧ RB w w4 w' w.heap.size w2.heap.size w3.heap.size A2 P (mdBlocks P mdInit j).cells) (fun j => P.length - 64 * j)
    0 ⟨rfl, rfl, rfl, rfl, rfl, trivial⟩ ⟨Nat.zero_le _, ⟨((hb1.keep hk2 id).keep hk3 id).keep hk4 id, hb3.keep hk4 id, hb4, (hsp.keepNo hk3).keepNo hk4, ((hk1.trans hk2).trans hk3).trans hk4, Nat.le_refl _⟩⟩ ?_
  rintro j w5 ⟨hj, hrb⟩
  (conv => whnf)
  refine VCmp.mk (fun h => ?_) (fun h => ?_) <;> (conv => whnf)
  · refine VMake.row (n := 16) (z := vw 0#32) (bytes := 4) Tryd.underlying45 (by kernel_rfl) rfl (by omega) (by omega) ?_
    intro w6 hb6 hk6
    have hrb6 := hrb.keepNo hc hk6
    have hsz5 := hrb.sz
    (conv => whnf)
    generalize hblk : (P.drop (64 * j)).take 64 = blk
    have hbl : blk.length = 64 := by rw [← hblk, List.length_take, List.length_drop]; omega
    have hbg : ∀ i, i < 64 → P[64 * j + i]? = some (blk.getD i 0) := fun i hi => by
      have e1 : blk[i]? = P[64 * j + i]? := by rw [← hblk, List.getElem?_take, if_pos hi, List.getElem?_drop]
      rw [← e1, getD_of (d := 0) (by omega)]
    refine VLoop.by_ tt_ok (S := Nat) (fun i => [(3, .slice (some ⟨w.heap.size, 0, none⟩) 4 4), (4, .slice A2 P.length c2), (5, .slice (some ⟨w2.heap.size, 0, none⟩) 48 48), (6, .slice (some ⟨w3.heap.size, 0, none⟩) 12 12), (7, .int .i64 (64 * j : Nat)), (8, .slice (some ⟨w5.heap.size, 0, none⟩) 16 16), (9, .int .i64 i)])
      (fun i w' => i ≤ 64 ∧ RB w w4 w' w.heap.size w2.heap.size w3.heap.size A2 P (mdBlocks P mdInit j).cells ∧ Blk w' w5.heap.size T32 ((mdWords blk i).map vw)) (fun i => 64 - i)
      0 ⟨rfl, rfl, rfl, rfl, rfl, rfl, rfl, trivial⟩ ⟨Nat.zero_le _, hrb6, hb6⟩ ?_
    rintro i w7 ⟨hi, hrb7, hb7⟩
    (conv => whnf)
    refine VCmp.mk (fun h => ?_) (fun h => ?_) <;> (conv => whnf)
    · have hi64 : i < 64 := by omega
      obtain ⟨b1, o1, hA2, hc1⟩ := hrb7.pd.at_ (by omega)
      refine VDraw.by_ tt_ok rfl (.take 0 (.take 1 (.take 2 (.take 3 (.take 4 (.take 5 (.take 6 (.take 7 (.take 8 (.take 9 (.take 10 (.take 11 (.take 12 (.take 13 (.take 14 (.take 15 (.take 16 (.take 17 (.take 18 (.take 19 (.take 20 (.take 21 (.one 22 .done))))))))))))))))))))))) (by decide +kernel) _ (fun x h1 h2 h3 h4 => Keep.ofHeap h1 h2 h3 h4) (fun wd hd kd => ?_)
      (conv => whnf)
      refine VReq.mk (by omega) ?_
      refine VRes.to (congrArg (Value.int .i64) (show IntKind.wrap .i64 ((i : Int).tdiv 4) = ((i / 4 : Nat) : Int) from wrap_i64 (by have : ((i : Int)).tdiv 4 = ((i / 4 : Nat) : Int) := rfl; rw [this]; omega))) ?_
      (conv => whnf)
      refine VReq.mk (by omega) ?_
      refine VRes.to (congrArg (Value.int .i64) (show IntKind.wrap .i64 ((i : Int).tdiv 4) = ((i / 4 : Nat) : Int) from wrap_i64 (by have : ((i : Int)).tdiv 4 = ((i / 4 : Nat) : Int) := rfl; rw [this]; omega))) ?_
      (conv => whnf)
      refine VIdx.one (i / 4) rfl (by omega) rfl ?_
      (conv => whnf)
      refine VLoad.keep (v := vw ((mdWords blk i).getD (i / 4) 0)) (by rw [hb7.cell, Nat.zero_add]; exact map_getD (by rw [mdWords_length]; omega)) ?_
      (conv => whnf)
      refine VRes.i64 (by omega) ?_
      (conv => whnf)
      refine VIdx.one (64 * j + i) (by omega) (by omega) hA2 ?_
      (conv => whnf)
      refine VLoad.keep (v := vb (blk.getD i 0)) (hc1 _ _ (by rw [List.getElem?_map, hbg i hi64]; rfl)) ?_
      (conv => whnf)
      refine VRes.to (v' := vw (BitVec.ofNat 32 (blk.getD i 0).toNat)) (by have := (blk.getD i 0).toNat_lt; rw [← vw_byte]; exact congrArg (Value.int .u32) (wrap_u rfl (by omega) (by show _ < 4294967296; omega))) ?_
      (conv => whnf)
      refine VReq.mk (by omega) ?_
      refine VRes.to (congrArg (Value.int .i64) (show ((i : Int)).tmod 4 = ((i % 4 : Nat) : Int) from rfl)) ?_
      (conv => whnf)
      refine VRes.i64 (by omega) ?_
      (conv => whnf)
      refine VRes.u64 (by omega) ?_
      (conv => whnf)
      refine VReq.mk (by omega) ?_
      (conv => whnf)
      refine VRes.shl32 (k := i % 4 * 8) rfl (by omega) ?_
      (conv => whnf)
      refine VRes.or32 rfl rfl ?_
      (conv => whnf)
      refine VIdx.one (i / 4) rfl (by omega) rfl ?_
      (conv => whnf)
      refine VStore.one (Blk.keep hb7 kd id) (by rw [List.length_map, mdWords_length]; omega) (fun w8 hb8 hk8 _ => ?_)
      (conv => whnf)
      refine VOwe.to (fun _ => True) (fun h => absurd h (by decide +kernel)) trivial ?_
      (conv => whnf)
      refine VRes.i64 (by omega) ?_
      (conv => whnf)
      refine ⟨i + 1, ⟨rfl, rfl, rfl, rfl, rfl, rfl, rfl, trivial⟩, ⟨by omega, (hrb7.keepNo hc kd).keep hc hk8 (fun k hk => by omega), ?_⟩, by omega⟩
      have e : (mdWords blk (i + 1)).map vw = ((mdWords blk i).map vw).set (i / 4) (vw ((mdWords blk i).getD (i / 4) 0 ||| (BitVec.ofNat 32 (blk.getD i 0).toNat <<< (i % 4 * 8)))) := by
        rw [← List.map_set]
        unfold mdWords
        rw [range_succ_foldl]
        rfl
      rw [e]
      rw [Nat.zero_add] at hb8
      exact hb8
    · have hi64 : i = 64 := by omega
      subst hi64
      have hXl := mdWords_length blk 64
      generalize hs0 : mdBlocks P mdInit j = s at *
      refine VDraw.by_ tt_ok rfl (.take 0 (.take 1 (.take 2 (.take 3 (.take 4 (.take 5 (.take 6 (.take 7 (.take 8 (.take 9 (.take 10 (.take 11 (.one 12 (.take 13 .done)))))))))))))) (by decide +kernel) _ (fun x h1 h2 h3 h4 => Keep.ofHeap h1 h2 h3 h4) (fun wd hd kd => ?_)
      (conv => whnf)
      refine VIdx.one 0 rfl (by omega) rfl ?_
      (conv => whnf)
      refine VLoad.keep (v := vw s.a) (by rw [Blk.cell hrb7.st]; rfl) ?_
      (conv => whnf)
      refine VIdx.one 1 rfl (by omega) rfl ?_
      (conv => whnf)
      refine VLoad.keep (v := vw s.b) (by rw [Blk.cell hrb7.st]; rfl) ?_
      (conv => whnf)
      refine VIdx.one 2 rfl (by omega) rfl ?_
      (conv => whnf)
      refine VLoad.keep (v := vw s.c) (by rw [Blk.cell hrb7.st]; rfl) ?_
      (conv => whnf)
      refine VIdx.one 3 rfl (by omega) rfl ?_
      (conv => whnf)
      refine VLoad.keep (v := vw s.d) (by rw [Blk.cell hrb7.st]; rfl) ?_
      (conv => whnf)
      refine VFill.by_ rfl ?_
      (conv => whnf)
      refine ⟨fun w8 hb8 hk8 => ?_⟩
      (conv => whnf)
      refine VOwe.to (fun _ => True) (fun h => absurd h (by decide +kernel)) trivial ?_
      (conv => whnf)
      have hkd8 := kd.trans hk8
      generalize hX : mdWords blk 64 = X at *
      refine VLoop.by_ tt_ok (S := Nat × Nat) (fun | (k, g) => [(3, .slice (some ⟨w.heap.size, 0, none⟩) 4 4), (4, .slice A2 P.length c2), (5, .slice (some ⟨w2.heap.size, 0, none⟩) 48 48), (6, .slice (some ⟨w3.heap.size, 0, none⟩) 12 12), (7, .int .i64 (64 * j : Nat)), (8, .slice (some ⟨w5.heap.size, 0, none⟩) 16 16), (10, .slice (some ⟨g, 0, none⟩) 4 4), (11, .int .i64 k)])
        (fun | (k, g) => fun w' => k ≤ 48 ∧ RB w w4 w' w.heap.size w2.heap.size w3.heap.size A2 P s.cells ∧ Blk w' w5.heap.size T32 (X.map vw) ∧ Blk w' g T32 (mdRounds X s k).cells ∧ w4.heap.size ≤ g) (fun | (k, _) => 48 - k)
        (0, _) ⟨rfl, rfl, rfl, rfl, rfl, rfl, rfl, rfl, trivial⟩ ⟨Nat.zero_le _, hrb7.keepNo hc hkd8, hb7.keep hkd8 id, hb8, by have := hrb7.sz; have := kd.size; omega⟩ ?_
      rintro ⟨k, g⟩ w9 ⟨hk48, hrb9, hb9, hbg9, hg4⟩
      have hne : ¬ (g = w.heap.size) := by omega
      (conv => whnf)
      refine VCmp.mk (fun h => ?_) (fun h => ?_) <;> (conv => whnf)
      · have hk : k < 48 := by omega
        generalize hq : mdRounds X s k = q at *
        refine VDraw.by_ tt_ok rfl (.take 0 (.take 1 (.take 2 (.take 3 (.take 4 (.take 5 (.take 6 (.take 7 (.take 8 (.take 9 (.take 10 (.take 11 (.take 12 (.take 13 (.take 14 (.take 15 (.take 16 .done))))))))))))))))) (by decide +kernel) _ (fun x h1 h2 h3 h4 => Keep.ofHeap h1 h2 h3 h4) (fun wd hd kd => ?_)
        (conv => whnf)
        refine VIdx.one 1 rfl (by omega) rfl ?_
        (conv => whnf)
        refine VLoad.keep (v := vw q.b) (by rw [Blk.cell hbg9]; rfl) ?_
        (conv => whnf)
        refine VIdx.one 2 rfl (by omega) rfl ?_
        (conv => whnf)
        refine VLoad.keep (v := vw q.c) (by rw [Blk.cell hbg9]; rfl) ?_
        (conv => whnf)
        refine VRes.and32 rfl ?_
        (conv => whnf)
        refine VIdx.one 1 rfl (by omega) rfl ?_
        (conv => whnf)
        refine VLoad.keep (v := vw q.b) (by rw [Blk.cell hbg9]; rfl) ?_
        (conv => whnf)
        refine VRes.not32 rfl ?_
        (conv => whnf)
        refine VIdx.one 3 rfl (by omega) rfl ?_
        (conv => whnf)
        refine VLoad.keep (v := vw q.d) (by rw [Blk.cell hbg9]; rfl) ?_
        (conv => whnf)
        refine VRes.and32 rfl ?_
        (conv => whnf)
        refine VRes.or32 rfl rfl ?_
        (conv => whnf)
        have kt := kd
        refine VCmp.mk (fun h16 => ?_) (fun h16 => ?_) <;> (conv => whnf)
        · skip
          have hg := hbg9.keep kt id
          have hx := hb9.keep kt id
          have hr := hrb9.keepNo hc kt
          refine VDraw.by_ tt_ok rfl (.take 0 (.take 1 (.take 2 (.take 3 (.take 4 (.take 5 (.take 6 (.take 7 (.take 8 (.take 9 (.take 10 (.take 11 (.take 12 (.take 13 (.take 14 (.take 15 (.take 16 (.take 17 (.take 18 (.take 19 (.take 20 (.take 21 (.take 22 (.take 23 .done)))))))))))))))))))))))) (by decide +kernel) _ (fun x h1 h2 h3 h4 => Keep.ofHeap h1 h2 h3 h4) (fun wd hd kd => ?_)
          have kt' := kt.trans kd
          (conv => whnf)
          refine VIdx.one 1 rfl (by omega) rfl ?_
          (conv => whnf)
          refine VLoad.keep (v := vw q.b) (by rw [Blk.cell hg]; rfl) ?_
          (conv => whnf)
          refine VIdx.one 2 rfl (by omega) rfl ?_
          (conv => whnf)
          refine VLoad.keep (v := vw q.c) (by rw [Blk.cell hg]; rfl) ?_
          (conv => whnf)
          refine VRes.and32 rfl ?_
          (conv => whnf)
          refine VIdx.one 1 rfl (by omega) rfl ?_
          (conv => whnf)
          refine VLoad.keep (v := vw q.b) (by rw [Blk.cell hg]; rfl) ?_
          (conv => whnf)
          refine VIdx.one 3 rfl (by omega) rfl ?_
          (conv => whnf)
          refine VLoad.keep (v := vw q.d) (by rw [Blk.cell hg]; rfl) ?_
          (conv => whnf)
          refine VRes.and32 rfl ?_
          (conv => whnf)
          refine VRes.or32 rfl rfl ?_
          (conv => whnf)
          refine VIdx.one 2 rfl (by omega) rfl ?_
          (conv => whnf)
          refine VLoad.keep (v := vw q.c) (by rw [Blk.cell hg]; rfl) ?_
          (conv => whnf)
          refine VIdx.one 3 rfl (by omega) rfl ?_
          (conv => whnf)
          refine VLoad.keep (v := vw q.d) (by rw [Blk.cell hg]; rfl) ?_
          (conv => whnf)
          refine VRes.and32 rfl ?_
          (conv => whnf)
          refine VRes.or32 rfl rfl ?_
          (conv => whnf)
          have kt := kt'
          refine VCmp.mk (fun h32 => ?_) (fun h32 => ?_) <;> (conv => whnf)
          · skip
            have hg := hbg9.keep kt id
            have hx := hb9.keep kt id
            have hr := hrb9.keepNo hc kt
            refine VDraw.by_ tt_ok rfl (.take 0 (.take 1 (.take 2 (.take 3 (.take 4 (.take 5 (.take 6 (.take 7 (.take 8 (.take 9 (.take 10 (.take 11 .done)))))))))))) (by decide +kernel) _ (fun x h1 h2 h3 h4 => Keep.ofHeap h1 h2 h3 h4) (fun wd hd kd => ?_)
            have kt' := kt.trans kd
            (conv => whnf)
            refine VIdx.one 1 rfl (by omega) rfl ?_
            (conv => whnf)
            refine VLoad.keep (v := vw q.b) (by rw [Blk.cell hg]; rfl) ?_
            (conv => whnf)
            refine VIdx.one 2 rfl (by omega) rfl ?_
            (conv => whnf)
            refine VLoad.keep (v := vw q.c) (by rw [Blk.cell hg]; rfl) ?_
            (conv => whnf)
            refine VRes.xor32 rfl rfl ?_
            (conv => whnf)
            refine VIdx.one 3 rfl (by omega) rfl ?_
            (conv => whnf)
            refine VLoad.keep (v := vw q.d) (by rw [Blk.cell hg]; rfl) ?_
            (conv => whnf)
            refine VRes.xor32 rfl rfl ?_
            (conv => whnf)
            have kt := kt'
            have hkn : k / 16 = 2 := by omega
            have hg := hbg9.keep kt id
            have hx := hb9.keep kt id
            have hr := hrb9.keepNo hc kt
            refine VDraw.by_ tt_ok rfl (.take 0 (.take 1 (.take 2 (.take 3 (.take 4 (.take 5 (.take 6 (.take 7 (.take 8 (.take 9 (.take 10 (.take 11 (.take 12 (.take 13 (.take 14 (.take 15 (.take 16 (.take 17 (.take 18 (.take 19 (.take 20 (.take 21 (.take 22 (.take 23 (.one 24 (.take 25 .done)))))))))))))))))))))))))) (by decide +kernel) _ (fun x h1 h2 h3 h4 => Keep.ofHeap h1 h2 h3 h4) (fun wd hd kd => ?_)
            have kt' := kt.trans kd
            (conv => whnf)
            refine VIdx.one 0 rfl (by omega) rfl ?_
            (conv => whnf)
            refine VLoad.keep (v := vw q.a) (by rw [Blk.cell hg]; rfl) ?_
            (conv => whnf)
            refine VRes.add32 rfl rfl ?_
            (conv => whnf)
            refine VIdx.one k rfl (by omega) rfl ?_
            (conv => whnf)
            refine VLoad.keep (v := iv (mdOrd.getD k 0)) (by rw [hr.od.cell, Nat.zero_add]; exact iv_getD (by show k < 48; omega)) ?_
            (conv => whnf)
            refine VIdx.one (mdOrd.getD k 0) rfl (mdOrd_lt' k hk) rfl ?_
            (conv => whnf)
            refine VLoad.keep (v := vw (X.getD (mdOrd.getD k 0) 0)) (by rw [hx.cell, Nat.zero_add]; exact map_getD (by rw [hXl]; exact mdOrd_lt' k hk)) ?_
            (conv => whnf)
            refine VRes.add32 rfl rfl ?_
            (conv => whnf)
            refine VRes.add32 (y := mdT 2) rfl rfl ?_
            (conv => whnf)
            refine VReq.mk (by omega) ?_
            refine VRes.to (congrArg (Value.int .i64) (show IntKind.wrap .i64 ((k : Int).tdiv 16) = ((k / 16 : Nat) : Int) from wrap_i64 (by have : ((k : Int)).tdiv 16 = ((k / 16 : Nat) : Int) := rfl; rw [this]; omega))) ?_
            (conv => whnf)
            refine VRes.i64 (by omega) ?_
            (conv => whnf)
            refine VReq.mk (by omega) ?_
            refine VRes.to (congrArg (Value.int .i64) (show ((k : Int)).tmod 4 = ((k % 4 : Nat) : Int) from rfl)) ?_
            (conv => whnf)
            refine VRes.i64 (by omega) ?_
            (conv => whnf)
            refine VIdx.one (k / 16 * 4 + k % 4) (by omega) (by omega) rfl ?_
            (conv => whnf)
            refine VLoad.keep (v := iv (mdTurn.getD (k / 16 * 4 + k % 4) 0)) (by rw [hr.sh.cell, Nat.zero_add]; exact iv_getD (by show _ < 12; omega)) ?_
            (conv => whnf)
            have htp := mdTurn_pos (k / 16) k (by omega)
            refine (left_ok wd _ _ htp.1 htp.2).mono ?_
            rintro v w' ⟨rfl, rfl⟩
            (conv => whnf)
            refine VOwe.same kd ?_
            (conv => whnf)
            have kt := kt'
            have hg := hbg9.keep kt id
            have hx := hb9.keep kt id
            have hr := hrb9.keepNo hc kt
            refine VDraw.by_ tt_ok rfl (.take 0 (.take 1 (.take 2 (.take 3 (.take 4 (.take 5 (.take 6 (.take 7 (.take 8 (.take 9 (.one 10 (.take 11 .done)))))))))))) (by decide +kernel) _ (fun x h1 h2 h3 h4 => Keep.ofHeap h1 h2 h3 h4) (fun wd hd kd => ?_)
            have kt' := kt.trans kd
            (conv => whnf)
            refine VIdx.one 3 rfl (by omega) rfl ?_
            (conv => whnf)
            refine VLoad.keep (v := vw q.d) (by rw [Blk.cell hg]; rfl) ?_
            (conv => whnf)
            refine VIdx.one 1 rfl (by omega) rfl ?_
            (conv => whnf)
            refine VLoad.keep (v := vw q.b) (by rw [Blk.cell hg]; rfl) ?_
            (conv => whnf)
            refine VIdx.one 2 rfl (by omega) rfl ?_
            (conv => whnf)
            refine VLoad.keep (v := vw q.c) (by rw [Blk.cell hg]; rfl) ?_
            (conv => whnf)
            refine VFill.by_ rfl ?_
            (conv => whnf)
            refine ⟨fun w10 hb10 hk10 => ?_⟩
            (conv => whnf)
            refine VOwe.to (fun _ => True) (fun h => absurd h (by decide +kernel)) trivial ?_
            (conv => whnf)
            refine VRes.i64 (by omega) ?_
            (conv => whnf)
            have kt := kt'.trans hk10
            refine ⟨(k + 1, _), ⟨rfl, rfl, rfl, rfl, rfl, rfl, rfl, rfl, trivial⟩, ⟨by omega, hrb9.keepNo hc kt, hb9.keep kt id, ?_, by have := hr.sz; have := kd.size; omega⟩, by dsimp only; omega⟩
            have e : mdRounds X s (k + 1) = mdStep1 q 2 (X.getD (mdOrd.getD k 0) 0) (mdTurn.getD (k / 16 * 4 + k % 4) 0) := by
              rw [← hq]
              unfold mdRounds
              rw [range_succ_foldl]
              show mdStep _ _ _ = _
              unfold mdStep
              rw [hkn]
            rw [e]
            exact hb10
          · skip
            have hkn : k / 16 = 1 := by omega
            have hg := hbg9.keep kt id
            have hx := hb9.keep kt id
            have hr := hrb9.keepNo hc kt
            refine VDraw.by_ tt_ok rfl (.take 0 (.take 1 (.take 2 (.take 3 (.take 4 (.take 5 (.take 6 (.take 7 (.take 8 (.take 9 (.take 10 (.take 11 (.take 12 (.take 13 (.take 14 (.take 15 (.take 16 (.take 17 (.take 18 (.take 19 (.take 20 (.take 21 (.take 22 (.take 23 (.one 24 (.take 25 .done)))))))))))))))))))))))))) (by decide +kernel) _ (fun x h1 h2 h3 h4 => Keep.ofHeap h1 h2 h3 h4) (fun wd hd kd => ?_)
            have kt' := kt.trans kd
            (conv => whnf)
            refine VIdx.one 0 rfl (by omega) rfl ?_
            (conv => whnf)
            refine VLoad.keep (v := vw q.a) (by rw [Blk.cell hg]; rfl) ?_
            (conv => whnf)
            refine VRes.add32 rfl rfl ?_
            (conv => whnf)
            refine VIdx.one k rfl (by omega) rfl ?_
            (conv => whnf)
            refine VLoad.keep (v := iv (mdOrd.getD k 0)) (by rw [hr.od.cell, Nat.zero_add]; exact iv_getD (by show k < 48; omega)) ?_
            (conv => whnf)
            refine VIdx.one (mdOrd.getD k 0) rfl (mdOrd_lt' k hk) rfl ?_
            (conv => whnf)
            refine VLoad.keep (v := vw (X.getD (mdOrd.getD k 0) 0)) (by rw [hx.cell, Nat.zero_add]; exact map_getD (by rw [hXl]; exact mdOrd_lt' k hk)) ?_
            (conv => whnf)
            refine VRes.add32 rfl rfl ?_
            (conv => whnf)
            refine VRes.add32 (y := mdT 1) rfl rfl ?_
            (conv => whnf)
            refine VReq.mk (by omega) ?_
            refine VRes.to (congrArg (Value.int .i64) (show IntKind.wrap .i64 ((k : Int).tdiv 16) = ((k / 16 : Nat) : Int) from wrap_i64 (by have : ((k : Int)).tdiv 16 = ((k / 16 : Nat) : Int) := rfl; rw [this]; omega))) ?_
            (conv => whnf)
            refine VRes.i64 (by omega) ?_
            (conv => whnf)
            refine VReq.mk (by omega) ?_
            refine VRes.to (congrArg (Value.int .i64) (show ((k : Int)).tmod 4 = ((k % 4 : Nat) : Int) from rfl)) ?_
            (conv => whnf)
            refine VRes.i64 (by omega) ?_
            (conv => whnf)
            refine VIdx.one (k / 16 * 4 + k % 4) (by omega) (by omega) rfl ?_
            (conv => whnf)
            refine VLoad.keep (v := iv (mdTurn.getD (k / 16 * 4 + k % 4) 0)) (by rw [hr.sh.cell, Nat.zero_add]; exact iv_getD (by show _ < 12; omega)) ?_
            (conv => whnf)
            have htp := mdTurn_pos (k / 16) k (by omega)
            refine (left_ok wd _ _ htp.1 htp.2).mono ?_
            rintro v w' ⟨rfl, rfl⟩
            (conv => whnf)
            refine VOwe.same kd ?_
            (conv => whnf)
            have kt := kt'
            have hg := hbg9.keep kt id
            have hx := hb9.keep kt id
            have hr := hrb9.keepNo hc kt
            refine VDraw.by_ tt_ok rfl (.take 0 (.take 1 (.take 2 (.take 3 (.take 4 (.take 5 (.take 6 (.take 7 (.take 8 (.take 9 (.one 10 (.take 11 .done)))))))))))) (by decide +kernel) _ (fun x h1 h2 h3 h4 => Keep.ofHeap h1 h2 h3 h4) (fun wd hd kd => ?_)
            have kt' := kt.trans kd
            (conv => whnf)
            refine VIdx.one 3 rfl (by omega) rfl ?_
            (conv => whnf)
            refine VLoad.keep (v := vw q.d) (by rw [Blk.cell hg]; rfl) ?_
            (conv => whnf)
            refine VIdx.one 1 rfl (by omega) rfl ?_
            (conv => whnf)
            refine VLoad.keep (v := vw q.b) (by rw [Blk.cell hg]; rfl) ?_
            (conv => whnf)
            refine VIdx.one 2 rfl (by omega) rfl ?_
            (conv => whnf)
            refine VLoad.keep (v := vw q.c) (by rw [Blk.cell hg]; rfl) ?_
            (conv => whnf)
            refine VFill.by_ rfl ?_
            (conv => whnf)
            refine ⟨fun w10 hb10 hk10 => ?_⟩
            (conv => whnf)
            refine VOwe.to (fun _ => True) (fun h => absurd h (by decide +kernel)) trivial ?_
            (conv => whnf)
            refine VRes.i64 (by omega) ?_
            (conv => whnf)
            have kt := kt'.trans hk10
            refine ⟨(k + 1, _), ⟨rfl, rfl, rfl, rfl, rfl, rfl, rfl, rfl, trivial⟩, ⟨by omega, hrb9.keepNo hc kt, hb9.keep kt id, ?_, by have := hr.sz; have := kd.size; omega⟩, by dsimp only; omega⟩
            have e : mdRounds X s (k + 1) = mdStep1 q 1 (X.getD (mdOrd.getD k 0) 0) (mdTurn.getD (k / 16 * 4 + k % 4) 0) := by
              rw [← hq]
              unfold mdRounds
              rw [range_succ_foldl]
              show mdStep _ _ _ = _
              unfold mdStep
              rw [hkn]
            rw [e]
            exact hb10
        · refine VCmp.mk (fun h32 => ?_) (fun h32 => ?_) <;> first | (exfalso; omega) | (conv => whnf)
          have hkn : k / 16 = 0 := by omega
          have hg := hbg9.keep kt id
          have hx := hb9.keep kt id
          have hr := hrb9.keepNo hc kt
          refine VDraw.by_ tt_ok rfl (.take 0 (.take 1 (.take 2 (.take 3 (.take 4 (.take 5 (.take 6 (.take 7 (.take 8 (.take 9 (.take 10 (.take 11 (.take 12 (.take 13 (.take 14 (.take 15 (.take 16 (.take 17 (.take 18 (.take 19 (.take 20 (.take 21 (.take 22 (.take 23 (.one 24 (.take 25 .done)))))))))))))))))))))))))) (by decide +kernel) _ (fun x h1 h2 h3 h4 => Keep.ofHeap h1 h2 h3 h4) (fun wd hd kd => ?_)
          have kt' := kt.trans kd
          (conv => whnf)
          refine VIdx.one 0 rfl (by omega) rfl ?_
          (conv => whnf)
          refine VLoad.keep (v := vw q.a) (by rw [Blk.cell hg]; rfl) ?_
          (conv => whnf)
          refine VRes.add32 rfl rfl ?_
          (conv => whnf)
          refine VIdx.one k rfl (by omega) rfl ?_
          (conv => whnf)
          refine VLoad.keep (v := iv (mdOrd.getD k 0)) (by rw [hr.od.cell, Nat.zero_add]; exact iv_getD (by show k < 48; omega)) ?_
          (conv => whnf)
          refine VIdx.one (mdOrd.getD k 0) rfl (mdOrd_lt' k hk) rfl ?_
          (conv => whnf)
          refine VLoad.keep (v := vw (X.getD (mdOrd.getD k 0) 0)) (by rw [hx.cell, Nat.zero_add]; exact map_getD (by rw [hXl]; exact mdOrd_lt' k hk)) ?_
          (conv => whnf)
          refine VRes.add32 rfl rfl ?_
          (conv => whnf)
          refine VRes.add32 (y := mdT 0) rfl rfl ?_
          (conv => whnf)
          refine VReq.mk (by omega) ?_
          refine VRes.to (congrArg (Value.int .i64) (show IntKind.wrap .i64 ((k : Int).tdiv 16) = ((k / 16 : Nat) : Int) from wrap_i64 (by have : ((k : Int)).tdiv 16 = ((k / 16 : Nat) : Int) := rfl; rw [this]; omega))) ?_
          (conv => whnf)
          refine VRes.i64 (by omega) ?_
          (conv => whnf)
          refine VReq.mk (by omega) ?_
          refine VRes.to (congrArg (Value.int .i64) (show ((k : Int)).tmod 4 = ((k % 4 : Nat) : Int) from rfl)) ?_
          (conv => whnf)
          refine VRes.i64 (by omega) ?_
          (conv => whnf)
          refine VIdx.one (k / 16 * 4 + k % 4) (by omega) (by omega) rfl ?_
          (conv => whnf)
          refine VLoad.keep (v := iv (mdTurn.getD (k / 16 * 4 + k % 4) 0)) (by rw [hr.sh.cell, Nat.zero_add]; exact iv_getD (by show _ < 12; omega)) ?_
          (conv => whnf)
          have htp := mdTurn_pos (k / 16) k (by omega)
          refine (left_ok wd _ _ htp.1 htp.2).mono ?_
          rintro v w' ⟨rfl, rfl⟩
          (conv => whnf)
          refine VOwe.same kd ?_
          (conv => whnf)
          have kt := kt'
          have hg := hbg9.keep kt id
          have hx := hb9.keep kt id
          have hr := hrb9.keepNo hc kt
          refine VDraw.by_ tt_ok rfl (.take 0 (.take 1 (.take 2 (.take 3 (.take 4 (.take 5 (.take 6 (.take 7 (.take 8 (.take 9 (.one 10 (.take 11 .done)))))))))))) (by decide +kernel) _ (fun x h1 h2 h3 h4 => Keep.ofHeap h1 h2 h3 h4) (fun wd hd kd => ?_)
          have kt' := kt.trans kd
          (conv => whnf)
          refine VIdx.one 3 rfl (by omega) rfl ?_
          (conv => whnf)
          refine VLoad.keep (v := vw q.d) (by rw [Blk.cell hg]; rfl) ?_
          (conv => whnf)
          refine VIdx.one 1 rfl (by omega) rfl ?_
          (conv => whnf)
          refine VLoad.keep (v := vw q.b) (by rw [Blk.cell hg]; rfl) ?_
          (conv => whnf)
          refine VIdx.one 2 rfl (by omega) rfl ?_
          (conv => whnf)
          refine VLoad.keep (v := vw q.c) (by rw [Blk.cell hg]; rfl) ?_
          (conv => whnf)
          refine VFill.by_ rfl ?_
          (conv => whnf)
          refine ⟨fun w10 hb10 hk10 => ?_⟩
          (conv => whnf)
          refine VOwe.to (fun _ => True) (fun h => absurd h (by decide +kernel)) trivial ?_
          (conv => whnf)
          refine VRes.i64 (by omega) ?_
          (conv => whnf)
          have kt := kt'.trans hk10
          refine ⟨(k + 1, _), ⟨rfl, rfl, rfl, rfl, rfl, rfl, rfl, rfl, trivial⟩, ⟨by omega, hrb9.keepNo hc kt, hb9.keep kt id, ?_, by have := hr.sz; have := kd.size; omega⟩, by dsimp only; omega⟩
          have e : mdRounds X s (k + 1) = mdStep1 q 0 (X.getD (mdOrd.getD k 0) 0) (mdTurn.getD (k / 16 * 4 + k % 4) 0) := by
            rw [← hq]
            unfold mdRounds
            rw [range_succ_foldl]
            show mdStep _ _ _ = _
            unfold mdStep
            rw [hkn]
          rw [e]
          exact hb10
      · have hk : k = 48 := by omega
        subst hk
        generalize hv : mdRounds X s 48 = v at *
        refine VLoop.by_ tt_ok (S := Nat) (fun k => [(3, .slice (some ⟨w.heap.size, 0, none⟩) 4 4), (4, .slice A2 P.length c2), (5, .slice (some ⟨w2.heap.size, 0, none⟩) 48 48), (6, .slice (some ⟨w3.heap.size, 0, none⟩) 12 12), (7, .int .i64 (64 * j : Nat)), (10, .slice (some ⟨g, 0, none⟩) 4 4), (15, .int .i64 k)])
          (fun k w' => k ≤ 4 ∧ RB w w4 w' w.heap.size w2.heap.size w3.heap.size A2 P (((mdAdd s v).list.take k ++ s.list.drop k).map vw) ∧ Blk w' g T32 v.cells) (fun k => 4 - k)
          0 ⟨rfl, rfl, rfl, rfl, rfl, rfl, rfl, trivial⟩ ⟨Nat.zero_le _, hrb9, hbg9⟩ ?_
        rintro k wA ⟨hk4, hrbA, hbA⟩
        (conv => whnf)
        refine VCmp.mk (fun h => ?_) (fun h => ?_) <;> (conv => whnf)
        · have hk4 : k = 0 ∨ k = 1 ∨ k = 2 ∨ k = 3 := by omega
          refine VDraw.by_ tt_ok rfl (.take 0 (.take 1 (.take 2 (.take 3 (.take 4 (.take 5 (.take 6 (.take 7 (.take 8 (.take 9 (.take 10 (.take 11 (.one 12 .done))))))))))))) (by decide +kernel) _ (fun x h1 h2 h3 h4 => Keep.ofHeap h1 h2 h3 h4) (fun wd hd kd => ?_)
          rcases hk4 with rfl | rfl | rfl | rfl
          · (conv => whnf)
            refine VIdx.one 0 rfl (by omega) rfl ?_
            (conv => whnf)
            refine VLoad.keep (v := vw s.a) (by rw [hrbA.st.cell]; rfl) ?_
            (conv => whnf)
            refine VIdx.one 0 rfl (by omega) rfl ?_
            (conv => whnf)
            refine VLoad.keep (v := vw v.a) (by rw [Blk.cell hbA]; rfl) ?_
            (conv => whnf)
            refine VRes.add32 rfl rfl ?_
            (conv => whnf)
            refine VIdx.one 0 rfl (by omega) rfl ?_
            (conv => whnf)
            refine VStore.one (Blk.keep hrbA.st kd id) (Nat.le_of_ble_eq_true rfl) (fun w7 hb9 hk9 _ => ?_)
            (conv => whnf)
            refine VOwe.to (fun _ => True) (fun h => absurd h (by decide +kernel)) trivial ?_
            (conv => whnf)
            refine VRes.i64 (by omega) ?_
            (conv => whnf)
            rw [BitVec.add_comm] at hb9
            exact ⟨1, ⟨rfl, rfl, rfl, rfl, rfl, rfl, rfl, trivial⟩, ⟨by omega, hrbA.store hc kd hk9 hb9, Blk.keep (Blk.keep hbA kd id) hk9 hne⟩, by omega⟩
          · (conv => whnf)
            refine VIdx.one 1 rfl (by omega) rfl ?_
            (conv => whnf)
            refine VLoad.keep (v := vw s.b) (by rw [hrbA.st.cell]; rfl) ?_
            (conv => whnf)
            refine VIdx.one 1 rfl (by omega) rfl ?_
            (conv => whnf)
            refine VLoad.keep (v := vw v.b) (by rw [Blk.cell hbA]; rfl) ?_
            (conv => whnf)
            refine VRes.add32 rfl rfl ?_
            (conv => whnf)
            refine VIdx.one 1 rfl (by omega) rfl ?_
            (conv => whnf)
            refine VStore.one (Blk.keep hrbA.st kd id) (Nat.le_of_ble_eq_true rfl) (fun w7 hb9 hk9 _ => ?_)
            (conv => whnf)
            refine VOwe.to (fun _ => True) (fun h => absurd h (by decide +kernel)) trivial ?_
            (conv => whnf)
            refine VRes.i64 (by omega) ?_
            (conv => whnf)
            rw [BitVec.add_comm] at hb9
            exact ⟨2, ⟨rfl, rfl, rfl, rfl, rfl, rfl, rfl, trivial⟩, ⟨by omega, hrbA.store hc kd hk9 hb9, Blk.keep (Blk.keep hbA kd id) hk9 hne⟩, by omega⟩
          · (conv => whnf)
            refine VIdx.one 2 rfl (by omega) rfl ?_
            (conv => whnf)
            refine VLoad.keep (v := vw s.c) (by rw [hrbA.st.cell]; rfl) ?_
            (conv => whnf)
            refine VIdx.one 2 rfl (by omega) rfl ?_
            (conv => whnf)
            refine VLoad.keep (v := vw v.c) (by rw [Blk.cell hbA]; rfl) ?_
            (conv => whnf)
            refine VRes.add32 rfl rfl ?_
            (conv => whnf)
            refine VIdx.one 2 rfl (by omega) rfl ?_
            (conv => whnf)
            refine VStore.one (Blk.keep hrbA.st kd id) (Nat.le_of_ble_eq_true rfl) (fun w7 hb9 hk9 _ => ?_)
            (conv => whnf)
            refine VOwe.to (fun _ => True) (fun h => absurd h (by decide +kernel)) trivial ?_
            (conv => whnf)
            refine VRes.i64 (by omega) ?_
            (conv => whnf)
            rw [BitVec.add_comm] at hb9
            exact ⟨3, ⟨rfl, rfl, rfl, rfl, rfl, rfl, rfl, trivial⟩, ⟨by omega, hrbA.store hc kd hk9 hb9, Blk.keep (Blk.keep hbA kd id) hk9 hne⟩, by omega⟩
          · (conv => whnf)
            refine VIdx.one 3 rfl (by omega) rfl ?_
            (conv => whnf)
            refine VLoad.keep (v := vw s.d) (by rw [hrbA.st.cell]; rfl) ?_
            (conv => whnf)
            refine VIdx.one 3 rfl (by omega) rfl ?_
            (conv => whnf)
            refine VLoad.keep (v := vw v.d) (by rw [Blk.cell hbA]; rfl) ?_
            (conv => whnf)
            refine VRes.add32 rfl rfl ?_
            (conv => whnf)
            refine VIdx.one 3 rfl (by omega) rfl ?_
            (conv => whnf)
            refine VStore.one (Blk.keep hrbA.st kd id) (Nat.le_of_ble_eq_true rfl) (fun w7 hb9 hk9 _ => ?_)
            (conv => whnf)
            refine VOwe.to (fun _ => True) (fun h => absurd h (by decide +kernel)) trivial ?_
            (conv => whnf)
            refine VRes.i64 (by omega) ?_
            (conv => whnf)
            rw [BitVec.add_comm] at hb9
            exact ⟨4, ⟨rfl, rfl, rfl, rfl, rfl, rfl, rfl, trivial⟩, ⟨by omega, hrbA.store hc kd hk9 hb9, Blk.keep (Blk.keep hbA kd id) hk9 hne⟩, by omega⟩
        · have hk4 : k = 4 := by omega
          subst hk4
          refine VRes.i64 (by omega) ?_
          (conv => whnf)
          refine ⟨j + 1, ⟨rfl, rfl, rfl, rfl, congrArg some (congrArg (Value.int .i64) (by omega)), trivial⟩, ⟨by omega, ?_⟩, by omega⟩
          have e : mdBlocks P mdInit (j + 1) = mdAdd s v := by
            rw [← hv, ← hX, ← hblk, ← hs0]
            unfold mdBlocks
            rw [range_succ_foldl]
            rfl
          rw [e]
          exact hrbA
  · have hjl : 64 * j = P.length := by omega
    have hjd : P.length / 64 = j := by omega
    have hres : md4 l = mdOut (mdBlocks P mdInit j) := by unfold md4; rw [hPd, hjd]
    rw [hres]
    generalize mdBlocks P mdInit j = s at *
    refine VLoop.by_ tt_ok (S := Nat × Option Addr × Nat) (fun | (i, A', c') => [(3, .slice (some ⟨w.heap.size, 0, none⟩) 4 4), (16, .slice A' i c'), (17, .int .i64 i)])
      (fun | (i, A', c') => fun w' => i ≤ 16 ∧ Blk w' w.heap.size T32 s.cells ∧ Own w' w.heap.size T8 1 A' i c' (((List.range i).map (mdByte s)).map vb) ∧ Keep No w w') (fun | (i, _) => 16 - i)
      (0, none, 0) ⟨rfl, rfl, rfl, trivial⟩ ⟨Nat.zero_le _, hrb.st, Own.nil _ _ _ _, hrb.kp⟩ ?_
    rintro ⟨i, A6, c6⟩ w6 ⟨hi, hb6, ho6, hk6⟩
    (conv => whnf)
    refine VCmp.mk (fun h => ?_) (fun h => ?_) <;> (conv => whnf)
    · refine VReq.mk (by omega) ?_
      refine VRes.to (congrArg (Value.int .i64) (show IntKind.wrap .i64 ((i : Int).tdiv 4) = ((i / 4 : Nat) : Int) from wrap_i64 (by have : ((i : Int)).tdiv 4 = ((i / 4 : Nat) : Int) := rfl; rw [this]; omega))) ?_
      (conv => whnf)
      refine VIdx.one (i / 4) rfl (by omega) rfl ?_
      (conv => whnf)
      refine VLoad.by_ (v := vw (s.get (i / 4))) (by rw [hb6.cell, Nat.zero_add]; exact get_cell s (i / 4) (by omega)) ?_
      (conv => whnf)
      refine VReq.mk (by omega) ?_
      refine VRes.to (congrArg (Value.int .i64) (show ((i : Int)).tmod 4 = ((i % 4 : Nat) : Int) from rfl)) ?_
      (conv => whnf)
      refine VRes.i64 (by omega) ?_
      (conv => whnf)
      refine VRes.u64 (by omega) ?_
      (conv => whnf)
      refine VReq.mk (by omega) ?_
      (conv => whnf)
      refine VRes.shrN (N := (s.get (i / 4)).toNat) (s := i % 4 * 8) rfl (by omega) (by show i % 4 * 8 ≤ 32; omega) ?_
      (conv => whnf)
      refine VRes.byte rfl ?_
      (conv => whnf)
      refine VFill.by_ rfl ?_
      (conv => whnf)
      refine ⟨fun w7 hb7 hk7 => ?_⟩
      (conv => whnf)
      refine app8one (w0 := w) (x := mdByte s i) (hk6.trans hk7) (ho6.keepNo hk7) hb7 rfl (by omega) ?_
      intro A8 c8 w8 ho8 hk8 hkA _
      (conv => whnf)
      refine VRes.i64 (by omega) ?_
      (conv => whnf)
      refine ⟨(i + 1, A8, c8), ⟨rfl, rfl, rfl, trivial⟩, ⟨by omega, ?_, ?_, hk8⟩, by dsimp only; omega⟩
      · refine Blk.keep (Blk.keep hb6 hk7 id) hkA ?_
        rintro ⟨a, ha, hab⟩
        exact (ho6.keepNo hk7).type_ne ha (Blk.keep hb6 hk7 id) (by decide) hab
      · have e : (List.range (i + 1)).map (mdByte s) = (List.range i).map (mdByte s) ++ [mdByte s i] := by
          rw [List.range_succ, List.map_append]
          rfl
        rw [e]
        exact ho8
    · have hi16 : i = 16 := by omega
      subst hi16
      exact ⟨A6, c6, rfl, ho6, hk6⟩
end Go.Proofs.YtoeijgbjgbgelaaDoor.Md
