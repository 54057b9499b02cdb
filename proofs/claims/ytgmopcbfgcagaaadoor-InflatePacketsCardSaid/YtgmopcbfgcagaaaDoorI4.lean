/-
  Package huff: a table made of lengths.
-/
import Derived.Test.YtgmopcbfgcagaaaDoorI3
import Derived.Deep.OwnRows
namespace Go.Proofs.YtgmopcbfgcagaaaDoor
open Go V

abbrev TTbP : TypeId := 72
theorem VRes.raw {v : Value} {K : Value → Prop} (h : K v) : VRes v K := ⟨h⟩
theorem nv_one (l : List Nat) : ∀ u ∈ l.map nv, u.oneCell' = true := by
  intro u hu
  obtain ⟨x, _, rfl⟩ := List.mem_map.1 hu
  rfl
theorem VMake.row_ {P : Program} {w : World} {t e : TypeId} {z : Value} {bytes n : Nat} {K : Value → World → Prop} (ht : P.underlying t = some (.slice e)) (hinfo : (P.info? e).map (fun i => (i.zero, i.size, i.bytes)) = some (some z, 1, bytes)) (hz1 : z.cells = #[z])
    (hbytes : bytes * n ≤ 281474976710656) (h63 : n ≤ 9223372036854775807)
    (hK : ∀ w', Blk w' w.heap.size e (List.replicate n z) → Keep No w w' → K (.slice (some ⟨w.heap.size, 0, none⟩) n n) w') : VMake P w t (.int .i64 (n : Int)) (.int .i64 (n : Int)) K := by
  refine ⟨⟨_, _, run_make_row' t e z bytes ht hinfo hz1 .i64 .i64 n hbytes h63 w, hK _ ?_ ⟨rfl, rfl, rfl, ?_, fun k hk _ => ?_⟩⟩⟩
  · show (w.heap.push _)[w.heap.size]? = _
    rw [Array.getElem?_push, if_pos rfl]
    have : madeCells #[z] n = (List.replicate n z).toArray := by
      apply Array.ext
      · simp [madeCells]
      · intro i h1 h2
        simp [madeCells, Nat.mod_one]
    rw [this]
  · show _ ≤ (w.heap.push _).size
    simp
  · show (w.heap.push _)[k]? = _
    rw [Array.getElem?_push, if_neg (by omega)]

theorem cloneI_ok (w : World) {A : Option Addr} {n c : Nat} {l : List Nat} (hs : Sl w 1 A n (l.map nv)) (hn : n ≤ 1000000) :
    VC Tryd.prog 67 [.slice A n c] w (fun v w' => ∃ A' c', v = .slice A' n c' ∧ Own w' w.heap.size TId 1 A' n c' (l.map nv) ∧ Keep No w w') := by
  have hl : l.length = n := by simpa using hs.len
  cases A with
  | none =>
    refine VC.of tt_ok Tryd.func67 rfl (by decide +kernel) (Nat.le_of_ble_eq_true rfl) ?_; (conv => whnf)
    have h0 : n = 0 := by
      rcases Nat.eq_zero_or_pos n with h | h
      · exact h
      · obtain ⟨b, o, h1, _⟩ := hs.at_ h; cases h1
    subst h0
    obtain rfl : l = [] := List.eq_nil_of_length_eq_zero hl
    exact ⟨none, 0, rfl, Own.nil _ _ _ _, Keep.refl _ _⟩
  | some a =>
    refine VC.of tt_ok Tryd.func67 rfl (by decide +kernel) (Nat.le_of_ble_eq_true rfl) ?_; (conv => whnf)
    refine VFill.by_ rfl ?_
    (conv => whnf)
    refine ⟨fun w1 hb1 hk1 => ?_⟩
    (conv => whnf)
    have ho1 : Own w1 w.heap.size TId 1 (some ⟨w.heap.size, 0, none⟩) 0 0 [] := Own.new (n := 0) hb1 (Nat.le_refl _) rfl (by unfold maxLen; omega)
    refine VApp.own tt_ok (it := ty107) (ei := ty3) rfl rfl rfl (size := 1) rfl rfl (by omega) ho1 (hs.keepNo hk1) (nv_one l) (by show (0 + n) * 8 ≤ _; omega) (by omega) hk1.size ?_
    intro A2 c2 w2 ho2 hk2 _
    (conv => whnf)
    rw [Nat.zero_add, List.nil_append] at ho2
    exact ⟨A2, c2, by rw [Nat.zero_add]; rfl, ho2, hk1.own ho1 hk2⟩

def NumV (w : World) (base t tb cb cbk n : Nat) (L : Option Addr) (cl cc : Nat) (O : Option Addr) (co : Nat) (cnt ord lens : List Nat) : Prop :=
  Blk w tb TTbP [.pointer (some ⟨t, 0, none⟩)] ∧ (∃ z : Int, Blk w cb TId [.int .i64 z]) ∧ Blk w t TTb (tbC (.slice L n cl) (.slice (some ⟨cbk, 0, none⟩) n cc) (.slice O ord.length co) cnt) ∧ (∃ cs, Blk w cbk TId cs ∧ cs.length = n) ∧
    Own w base TId 1 O ord.length co (ord.map nv) ∧ Sl w 1 L n (lens.map nv) ∧ cb ≠ cbk ∧ (∀ a, O = some a → a.block ≠ cb ∧ a.block ≠ cbk) ∧
    (∀ a, L = some a → a.block ≠ cb ∧ a.block ≠ cbk ∧ Ty w a.block TId ∧ ∀ a', O = some a' → a.block ≠ a'.block) ∧ cnt.length = 16 ∧ base ≤ t ∧ base ≤ tb ∧ base ≤ cb ∧ base ≤ cbk

set_option maxHeartbeats 2000000 in
theorem each_ok (w0 w : World) {t tb cb cbk n : Nat} {L : Option Addr} {cl cc : Nat} {O : Option Addr} {co : Nat} {cnt ord lens : List Nat} (h : NumV w w0.heap.size t tb cb cbk n L cl cc O co cnt ord lens) (kp : Keep No w0 w) {k : Nat} (hk : k < n) (hol : ord.length ≤ 1000000) :
    VC Tryd.prog 77 [.int .i64 k, .pointer (some ⟨cb, 0, none⟩), .pointer (some ⟨tb, 0, none⟩)] w
      (fun v w' => (v = .tuple #[] ∧ ∃ O' co', NumV w' w0.heap.size t tb cb cbk n L cl cc O' co' cnt (ord ++ [k]) lens) ∧ Keep No w0 w') := by
  obtain ⟨htb, ⟨z, hcb⟩, ht, ⟨cs, hcs, hcsl⟩, hO, hL, hne, hOs, hLs, hcl, b1, b2, b3, b4⟩ := h
  have hord : w.cell? ⟨t, 19, none⟩ = some (.slice O ord.length co) := by rw [ht.cell]; exact tbC_ord hcl
  have n1 : tb ≠ cbk := htb.ne hcs (by decide)
  have n2 : t ≠ cbk := ht.ne hcs (by decide)
  have n3 : tb ≠ cb := htb.ne hcb (by decide)
  have n4 : t ≠ cb := ht.ne hcb (by decide)
  have n5 : t ≠ tb := ht.ne htb (by decide)
  refine VC.of tt_ok Tryd.func77 rfl (by decide +kernel) (Nat.le_of_ble_eq_true rfl) ?_; (conv => whnf)
  refine VDraw.by_ tt_ok rfl (.take 0 (.take 1 (.take 2 (.take 3 (.take 4 (.take 5 (.take 6 (.one 7 .done)))))))) (by decide +kernel) _ (fun x h1 h2 h3 h4 => Keep.ofHeap h1 h2 h3 h4) (fun wd hd kd => ?_)
  (conv => whnf)
  refine VLoad.keep (htb.cell 0) ?_
  (conv => whnf)
  refine VLoad.keep (ht.cell 2) ?_
  (conv => whnf)
  refine VLoad.keep (hcb.cell 0) ?_
  (conv => whnf)
  refine VIdx.one k rfl hk rfl ?_
  (conv => whnf)
  have kp := kp.trans kd
  refine VStore.one (hcs.keepNo kd) (by omega) ?_
  intro w1 hcs1 k1 _
  have kp := kp.fresh_ k1 b4
  have htb1 := (htb.keepNo kd).keep k1 n1
  have ht1 := (ht.keepNo kd).keep k1 n2
  have hcb1 := (hcb.keepNo kd).keep k1 hne
  have hO1 := (hO.keepNo kd).keep k1 (fun a ha e => (hOs a ha).2 e)
  have hL1 := (hL.keepNo kd).keep k1 (fun a ha e => (hLs a ha).2.1 e)
  have hord1 : w1.cell? ⟨t, 19, none⟩ = some (.slice O ord.length co) := by rw [ht1.cell]; exact tbC_ord hcl
  have hot : ∀ i, (Ty w1 i TTbP ∨ Ty w1 i TTb) → ¬ ownS O i := fun i hi ⟨a, ha, e⟩ => by
    subst e
    rcases hi with g | g
    · exact g.ne (hO1.ty ha) (by decide) rfl
    · exact g.ne (hO1.ty ha) (by decide) rfl
  (conv => whnf)
  refine VOwe.to (fun _ => True) (fun h => absurd h (by decide +kernel)) trivial ?_; (conv => whnf)
  refine VDraw.by_ tt_ok rfl (.take 0 (.take 1 (.take 2 (.take 3 (.take 4 (.take 5 (.one 6 (.one 7 (.take 8 (.take 9 (.one 10 .done))))))))))) (by decide +kernel) (fun x => Keep (ownS O) w1 x) (fun x h1 h2 h3 h4 => (Keep.ofHeap h1 h2 h3 h4).mono (fun _ _ h => h.elim)) (fun wd hd kd => ?_)
  (conv => whnf)
  refine VLoad.by_ (fun y hy => hy.cell (htb1.cell 0) (hot _ (.inl htb1.ty))) ?_
  (conv => whnf)
  refine VLoad.by_ (fun y hy => hy.cell (htb1.cell 0) (hot _ (.inl htb1.ty))) ?_
  (conv => whnf)
  refine VLoad.by_ (fun y hy => hy.cell hord1 (hot _ (.inr ht1.ty))) ?_
  (conv => whnf)
  refine VFill.by_ rfl ?_; (conv => whnf)
  refine ⟨fun w2 hb2 k2 => ?_⟩
  (conv => whnf)
  refine VOwe.same ((kd.trans k2).mono (fun _ _ h => h.elim)) ?_
  (conv => whnf)
  have kq := kd.trans k2
  have kp := (kp.trans kd).trans k2
  have hO2 := hO1.keepNo kq
  refine VApp.own tt_ok (it := ty107) (ei := ty3) rfl rfl rfl (size := 1) rfl rfl (by omega) hO2 (ys := [nv k]) (Sl.ofBlk (n := 1) (size := 1) hb2 rfl) (nv_one [k]) (by show (ord.length + 1) * 8 ≤ _; omega) (by omega) kp.size ?_
  intro O3 co3 w3 ho3 k3 hat
  have kp := kp.own hO2 k3
  have ht3 := (ht1.keepNo kq).keep k3 (hot _ (.inr ht1.ty))
  have htb3 := (htb1.keepNo kq).keep k3 (hot _ (.inl htb1.ty))
  have hcb3 := (hcb1.keepNo kq).keep k3 (fun ⟨a, ha, e⟩ => (hOs a ha).1 e)
  have hcs3 := (hcs1.keepNo kq).keep k3 (fun ⟨a, ha, e⟩ => (hOs a ha).2 e)
  have hL3 := (hL1.keepNo kq).keep k3 (fun a ha ⟨a', ha', e⟩ => (hLs a ha).2.2.2 a' ha' e.symm)
  have hLt3 : ∀ a, L = some a → Ty w3 a.block TId := fun a ha => (((((hLs a ha).2.2.1.keepNo (by assumption : Keep No w _)).keep k1 (fun e => (hLs a ha).2.1 e))).keepNo kq).keep k3 (fun ⟨a', ha', e⟩ => (hLs a ha).2.2.2 a' ha' e.symm)
  have hltcb := Blk.lt hcb1
  have hltcs := Blk.lt hcs1
  have kq_sz := kq.size
  have hO3s : ∀ a, O3 = some a → a.block ≠ cb ∧ a.block ≠ cbk := fun a ha => by
    rcases hat a ha with ⟨a0, h0, e⟩ | e
    · rw [e]; exact hOs a0 h0
    · omega
  (conv => whnf)
  refine VOwe.same (((kd.trans k2).mono (fun _ _ h => h.elim)).trans k3) ?_
  (conv => whnf)
  refine VStore.one ht3 (show 19 < (tbC (.slice L n cl) (.slice (some ⟨cbk, 0, none⟩) n cc) (.slice O ord.length co) cnt).length from by rw [tbC_len]; omega) ?_
  intro w4 ht4 k4 _
  have kp := kp.fresh_ k4 b1
  have htl : (tbC (.slice L n cl) (.slice (some ⟨cbk, 0, none⟩) n cc) (.slice O ord.length co) cnt).set 19 (.slice O3 (ord.length + 1) co3) = tbC (.slice L n cl) (.slice (some ⟨cbk, 0, none⟩) n cc) (.slice O3 (ord.length + 1) co3) cnt := tbC_setord hcl
  have ht4 : Blk w4 t TTb (tbC (.slice L n cl) (.slice (some ⟨cbk, 0, none⟩) n cc) (.slice O3 (ord.length + 1) co3) cnt) := by rw [← htl]; exact ht4
  have hcb4 := hcb3.keep k4 (fun e => n4 e.symm)
  (conv => whnf)
  refine VOwe.to (fun _ => True) (fun h => absurd h (by decide +kernel)) trivial ?_; (conv => whnf)
  refine VLoad.by_ (hcb4.cell 0) ?_
  (conv => whnf)
  refine VRes.raw ?_
  (conv => whnf)
  refine VStore.one hcb4 (by simp) ?_
  intro w5 hcb5 k5 _
  have kp := kp.fresh_ k5 b3
  (conv => whnf)
  have hlen : (ord ++ [k]).length = ord.length + 1 := by simp
  refine ⟨⟨rfl, O3, co3, (htb3.keep k4 (fun e => n5 e.symm)).keep k5 n3, ⟨_, hcb5⟩, by rw [hlen]; exact ht4.keep k5 n4, ⟨_, (hcs3.keep k4 (fun e => n2 e.symm)).keep k5 (fun e => hne e.symm), by rw [List.length_set]; exact hcsl⟩, ?_, ?_, hne, hO3s, ?_, hcl, b1, b2, b3, b4⟩, kp⟩
  · rw [hlen, List.map_append]
    exact (ho3.keep k4 (fun a ha e => (ho3.ty ha).ne ht3.ty (by decide) e)).keep k5 (fun a ha e => (hO3s a ha).1 e)
  · exact (hL3.keep k4 (fun a ha e => (hLt3 a ha).ne ht3.ty (by decide) e)).keep k5 (fun a ha e => (hLs a ha).1 e)
  · intro a ha
    refine ⟨(hLs a ha).1, (hLs a ha).2.1, ((hLt3 a ha).keep k4 (fun e => (hLt3 a ha).ne ht3.ty (by decide) e)).keep k5 (fun e => (hLs a ha).1 e), fun a' ha' e => ?_⟩
    rcases hat a' ha' with ⟨a0, h0, e0⟩ | e0
    · exact (hLs a ha).2.2.2 a0 h0 (by rw [e, e0])
    · have := (((hLs a ha).2.2.1.keepNo (by assumption : Keep No w _)).keep k1 (fun e => (hLs a ha).2.1 e)).lt
      omega

/-- The symbols of k whose lengths are n; those of lengths up to i. -/
def ordS (lens : List Nat) (n k : Nat) : List Nat := (List.range k).filter fun s => lens.getD s 0 == n
def ordA (lens : List Nat) : Nat → List Nat
  | 0 => []
  | i + 1 => ordA lens i ++ ordS lens (i + 1) lens.length
theorem ordS_len (lens : List Nat) (n k : Nat) : (ordS lens n k).length ≤ k := by
  have := List.length_filter_le (fun s => lens.getD s 0 == n) (List.range k)
  rw [List.length_range] at this
  exact this
theorem ordA_len (lens : List Nat) (i : Nat) : (ordA lens i).length ≤ i * lens.length := by
  induction i with
  | zero => simp [ordA]
  | succ i ih =>
    have := ordS_len lens (i + 1) lens.length
    rw [ordA, List.length_append, Nat.succ_mul]; omega

set_option maxHeartbeats 2000000 in
theorem tbNumber_ok (w0 w : World) {t cbk n : Nat} {L : Option Addr} {cl cc : Nat} {cnt lens : List Nat} (ht : Blk w t TTb (tbC (.slice L n cl) (.slice (some ⟨cbk, 0, none⟩) n cc) (.slice none 0 0) cnt)) (hcs : ∃ cs, Blk w cbk TId cs ∧ cs.length = n)
    (hL : Sl w 1 L n (lens.map nv)) (hLs : ∀ a, L = some a → a.block ≠ cbk ∧ Ty w a.block TId) (hcl : cnt.length = 16) (b1 : w0.heap.size ≤ t) (b4 : w0.heap.size ≤ cbk) (kp : Keep No w0 w) (hn : n ≤ 320) :
    VC Tryd.prog 69 [.pointer (some ⟨t, 0, none⟩)] w (fun v w' => (v = .tuple #[] ∧ TblV w' t cnt (ordA lens 15)) ∧ Keep No w0 w') := by
  have hll : lens.length = n := by simpa using hL.len
  obtain ⟨cs, hcs, hcsl⟩ := hcs
  have hltc := Blk.lt hcs
  have kp_sz := kp.size
  refine VC.of tt_ok Tryd.func69 rfl (by decide +kernel) (Nat.le_of_ble_eq_true rfl) ?_; (conv => whnf)
  refine ⟨fun w1 htb k1 => ?_⟩; have htb_lt := Blk.lt htb; have k1_sz := k1.size; (conv => whnf)
  have htb : Blk w1 w.heap.size TTbP [.pointer (some ⟨t, 0, none⟩)] := htb
  have kp := kp.trans k1
  (conv => whnf)
  refine ⟨fun w2 hcb k2 => ?_⟩; have hcb_lt := Blk.lt hcb; have k2_sz := k2.size; (conv => whnf)
  have kp := kp.trans k2
  have k1_sz := k1.size
  (conv => whnf)
  refine VStore.one hcb (by decide) ?_
  intro w3 hcb3 k3 _
  have hcb3 : Blk w3 w1.heap.size TId [.int .i64 0] := hcb3
  have kp := kp.fresh_ k3 (by omega)
  have k12 := k1.trans k2
  have hltt := Blk.lt ht
  have hinit : NumV w3 w0.heap.size t w.heap.size w1.heap.size cbk n L cl cc none 0 cnt (ordA lens 0) lens :=
    ⟨(htb.keepNo k2).keep k3 (by omega), ⟨0, hcb3⟩, (ht.keepNo k12).keep k3 (by omega), ⟨cs, (hcs.keepNo k12).keep k3 (by omega), hcsl⟩, Own.nil _ _ _ _, (hL.keepNo k12).keep k3 (fun a ha e => by have := (hLs a ha).2.lt; omega), by omega, fun a ha => (by cases ha),
      fun a ha => ⟨by have := (hLs a ha).2.lt; omega, (hLs a ha).1, ((hLs a ha).2.keepNo k12).keep k3 (fun e => by have := (hLs a ha).2.lt; omega), fun a' ha' => (by cases ha')⟩, hcl, b1, by omega, by omega, b4⟩
  (conv => whnf)
  refine VLoop.by_ tt_ok (S := Nat × Option Addr × Nat) (fun | (i, O, co) => [(1, .pointer (some ⟨w.heap.size, 0, none⟩)), (2, .pointer (some ⟨w1.heap.size, 0, none⟩)), (3, .int .i64 ((i + 1 : Nat) : Int))])
    (fun | (i, O, co) => fun w' => i ≤ 15 ∧ NumV w' w0.heap.size t w.heap.size w1.heap.size cbk n L cl cc O co cnt (ordA lens i) lens ∧ Keep No w0 w') (fun | (i, _, _) => 15 - i)
    (0, none, 0) ⟨rfl, rfl, rfl, trivial⟩ ⟨by omega, hinit, kp⟩ ?_
  rintro ⟨i, O, co⟩ w4 ⟨hi, hnum, kp⟩
  (conv => whnf)
  refine VCmp.mk (fun h => ?_) (fun h => ?_) <;> (conv => whnf)
  rotate_left 1
  · obtain rfl : i = 15 := by omega
    obtain ⟨htb, _, ht, _, hO, _⟩ := hnum
    exact ⟨⟨rfl, hcl, _, _, O, co, ht, Sl.ofOwn hO, fun a ha => hO.ty ha⟩, kp⟩
  have hnum0 := hnum
  obtain ⟨htb, ⟨z, hcb⟩, ht, hcs, hO, hL, g1, g2, g3, _, _, _, b3, _⟩ := hnum
  refine VLoad.by_ (hcb.cell 0) ?_
  (conv => whnf)
  refine VReq.mk (by omega) ?_
  refine VRes.raw ?_
  (conv => whnf)
  refine VStore.one hcb (by simp) ?_
  intro w5 hcb5 k5 _
  have kp := kp.fresh_ k5 b3
  have n3 : w.heap.size ≠ w1.heap.size := htb.ne hcb (by decide)
  have n4 : t ≠ w1.heap.size := ht.ne hcb (by decide)
  have hnum5 : NumV w5 w0.heap.size t w.heap.size w1.heap.size cbk n L cl cc O co cnt (ordA lens i) lens := by
    obtain ⟨_, _, _, ⟨cs, hcs, hcsl⟩, _, _, _, _, _, e1, e2, e3, e4, e5⟩ := hnum0
    exact ⟨htb.keep k5 n3, ⟨_, hcb5⟩, ht.keep k5 n4, ⟨cs, hcs.keep k5 (fun e => g1 e.symm), hcsl⟩, hO.keep k5 (fun a ha e => (g2 a ha).1 e), hL.keep k5 (fun a ha e => (g3 a ha).1 e), g1, g2,
      fun a ha => ⟨(g3 a ha).1, (g3 a ha).2.1, (g3 a ha).2.2.1.keep k5 (fun e => (g3 a ha).1 e), (g3 a ha).2.2.2⟩, e1, e2, e3, e4, e5⟩
  (conv => whnf)
  refine VLoad.by_ (hnum5.1.cell 0) ?_
  (conv => whnf)
  refine VLoad.by_ (hnum5.2.2.1.cell 1) ?_
  (conv => whnf)
  refine VLoop.by_ tt_ok (S := Nat × Option Addr × Nat) (fun | (k, O, co) => [(1, .pointer (some ⟨w.heap.size, 0, none⟩)), (2, .pointer (some ⟨w1.heap.size, 0, none⟩)), (3, .int .i64 ((i + 1 : Nat) : Int)), (4, .func (.func 77) #[] #[.pointer (some ⟨w1.heap.size, 0, none⟩), .pointer (some ⟨w.heap.size, 0, none⟩)]), (17, .slice L n cl), (18, .int .i64 n), (19, .int .i64 k)])
    (fun | (k, O, co) => fun w' => k ≤ n ∧ NumV w' w0.heap.size t w.heap.size w1.heap.size cbk n L cl cc O co cnt (ordA lens i ++ ordS lens (i + 1) k) lens ∧ Keep No w0 w') (fun | (k, _, _) => n - k)
    (0, O, co) ⟨rfl, rfl, rfl, rfl, rfl, rfl, rfl, trivial⟩ ⟨by omega, by simpa [ordS] using hnum5, kp⟩ ?_
  rintro ⟨k, O, co⟩ w6 ⟨hk, hnum, kp⟩
  (conv => whnf)
  refine VCmp.mk (fun h2 => ?_) (fun h2 => ?_) <;> (conv => whnf)
  rotate_left 1
  · obtain rfl : k = n := by omega
    refine VRes.i64 (by omega) ?_; (conv => whnf)
    exact ⟨(i + 1, O, co), ⟨rfl, rfl, rfl, trivial⟩, ⟨by omega, by rw [ordA, hll]; exact hnum, kp⟩, by dsimp only; omega⟩
  have hL6 := hnum.2.2.2.2.2.1
  refine VIdx.nv hL6 k rfl (by omega) (fun b_ o_ hA_ hc_ => ?_)
  (conv => whnf)
  refine VLoad.by_ hc_ ?_
  (conv => whnf)
  have hos : ordS lens (i + 1) (k + 1) = ordS lens (i + 1) k ++ (if lens.getD k 0 = i + 1 then [k] else []) := by
    unfold ordS
    rw [List.range_succ, List.filter_append]
    congr 1
    by_cases h0 : lens.getD k 0 = i + 1
    · rw [if_pos h0]; simp only [List.filter_cons, h0, beq_self_eq_true, if_true, List.filter_nil]
    · rw [if_neg h0]; simp only [List.filter_cons, List.filter_nil, beq_iff_eq, h0, if_false]
  refine VCmp.mk (fun h3 => ?_) (fun h3 => ?_) <;> (conv => whnf)
  · have hl1 := ordA_len lens i
    have hl2 := ordS_len lens (i + 1) k
    have hl3 : i * lens.length ≤ 15 * lens.length := Nat.mul_le_mul_right _ (by omega)
    refine (each_ok w0 w6 hnum kp (k := k) (by omega) (by rw [List.length_append]; omega)).mono ?_
    rintro v w7 ⟨⟨rfl, O7, co7, hnum7⟩, kp⟩
    (conv => whnf)
    refine VRes.i64 (by omega) ?_; (conv => whnf)
    exact ⟨(k + 1, O7, co7), ⟨rfl, rfl, rfl, rfl, rfl, rfl, rfl, trivial⟩, ⟨by omega, by rw [hos, if_pos (by omega), ← List.append_assoc]; exact hnum7, kp⟩, by dsimp only; omega⟩
  · refine VRes.i64 (by omega) ?_; (conv => whnf)
    exact ⟨(k + 1, O, co), ⟨rfl, rfl, rfl, rfl, rfl, rfl, rfl, trivial⟩, ⟨by omega, by rw [hos, if_neg (by omega), List.append_nil]; exact hnum, kp⟩, by dsimp only; omega⟩

/-! ### Are there just as many codes as may be? -/
def sumK (cnt : List Nat) : Nat → Nat
  | 0 => 0
  | i + 1 => sumK cnt i + cnt.getD (i + 1) 0 * 2 ^ (15 - (i + 1))
def wholeB (cnt : List Nat) : Bool := sumK cnt 15 == 32768 || preK cnt 15 == 0 || (preK cnt 15 == 1 && cnt.getD 1 0 == 1)
theorem sumK_le {cnt : List Nat} (h : ∀ i, cnt.getD i 0 ≤ 320) (i : Nat) : sumK cnt i ≤ i * 10485760 ∧ preK cnt i ≤ i * 320 := by
  induction i with
  | zero => simp [sumK, preK]
  | succ i ih =>
    have h1 := h (i + 1)
    have hp : 2 ^ (15 - (i + 1)) ≤ 2 ^ 15 := Nat.pow_le_pow_right (by omega) (by omega)
    have h2 : cnt.getD (i + 1) 0 * 2 ^ (15 - (i + 1)) ≤ 320 * 32768 := Nat.mul_le_mul h1 hp
    unfold sumK preK
    omega
theorem whole_ok (w : World) {t : Nat} {Lv Cv Ov : Value} {cnt : List Nat} (ht : Blk w t TTb (tbC Lv Cv Ov cnt)) (hcl : cnt.length = 16) (hc : ∀ i, cnt.getD i 0 ≤ 320) :
    VC Tryd.prog 68 [.pointer (some ⟨t, 0, none⟩)] w (fun v w' => v = .bool (wholeB cnt) ∧ w' = w) := by
  have hcell : ∀ i, i < 16 → w.cell? ⟨t, 3 + i, none⟩ = some (.int .i64 ((cnt.getD i 0 : Nat) : Int)) := fun i hi => by rw [ht.cell]; exact tbC_cnt (by omega)
  refine VC.of tt_ok Tryd.func68 rfl (by decide +kernel) (Nat.le_of_ble_eq_true rfl) ?_; (conv => whnf)
  refine VLoop.by_ tt_ok (S := Nat) (fun i => [(0, .pointer (some ⟨t, 0, none⟩)), (3, .int .i64 (sumK cnt i : Nat)), (4, .int .i64 (preK cnt i : Nat)), (5, .int .i64 ((i + 1 : Nat) : Int))])
    (fun i w' => i ≤ 15 ∧ w' = w) (fun i => 15 - i) 0 ⟨rfl, rfl, rfl, rfl, trivial⟩ ⟨by omega, rfl⟩ ?_
  rintro i w' ⟨hi, rfl⟩
  obtain ⟨hs1, hs2⟩ := sumK_le hc i
  (conv => whnf)
  refine VCmp.mk (fun h => ?_) (fun h => ?_) <;> (conv => whnf)
  · have h1 := hc (i + 1)
    have hp : 2 ^ (15 - (i + 1)) ≤ 2 ^ 15 := Nat.pow_le_pow_right (by omega) (by omega)
    have h2 : cnt.getD (i + 1) 0 * 2 ^ (15 - (i + 1)) ≤ 320 * 32768 := Nat.mul_le_mul h1 hp
    refine VIdxA.one (i + 1) rfl (by omega) rfl ?_
    (conv => whnf)
    refine VLoad.by_ (hcell (i + 1) (by omega)) ?_
    (conv => whnf)
    refine VRes.i64 (by omega) ?_; (conv => whnf)
    refine VReq.mk (by omega) ?_
    refine VRes.shlNat (N := cnt.getD (i + 1) 0) (s := 15 - (i + 1)) rfl (by omega) (by omega) (by omega) ?_
    (conv => whnf)
    refine VRes.i64 (by omega) ?_; (conv => whnf)
    refine VIdxA.one (i + 1) rfl (by omega) rfl ?_
    (conv => whnf)
    refine VLoad.by_ (hcell (i + 1) (by omega)) ?_
    (conv => whnf)
    refine VRes.i64 (by omega) ?_; (conv => whnf)
    refine VRes.i64 (by omega) ?_; (conv => whnf)
    exact ⟨i + 1, ⟨rfl, rfl, rfl, rfl, trivial⟩, ⟨by omega, rfl⟩, by omega⟩
  obtain rfl : i = 15 := by omega
  refine VCmp.mk (fun h1 => ?_) (fun h1 => ?_) <;> (conv => whnf)
  · exact ⟨congrArg Value.bool (by unfold wholeB; have : sumK cnt 15 = 32768 := by omega
                                   simp [this]), rfl⟩
  have e1 : (sumK cnt 15 == 32768) = false := by simp; omega
  refine VCmp.mk (fun h2 => ?_) (fun h2 => ?_) <;> (conv => whnf)
  · exact ⟨congrArg Value.bool (by unfold wholeB; have : preK cnt 15 = 0 := by omega
                                   simp [this]), rfl⟩
  have e2 : (preK cnt 15 == 0) = false := by simp; omega
  refine VCmp.mk (fun h3 => ?_) (fun h3 => ?_) <;> (conv => whnf)
  · have e3 : (preK cnt 15 == 1) = true := by simp; omega
    refine VIdxA.one 1 rfl (by omega) rfl ?_
    (conv => whnf)
    refine VLoad.by_ (hcell 1 (by omega)) ?_
    (conv => whnf)
    refine VCmp.mk (fun h4 => ?_) (fun h4 => ?_) <;> (conv => whnf)
    · have e4 : (cnt.getD 1 0 == 1) = true := by simp only [beq_iff_eq]; omega
      exact ⟨congrArg Value.bool (by unfold wholeB; rw [e1, e2, e3, e4]; rfl), rfl⟩
    · have e4 : (cnt.getD 1 0 == 1) = false := by simp only [beq_eq_false_iff_ne]; omega
      exact ⟨congrArg Value.bool (by unfold wholeB; rw [e1, e2, e3, e4]; rfl), rfl⟩
  · have e3 : (preK cnt 15 == 1) = false := by simp; omega
    exact ⟨congrArg Value.bool (by unfold wholeB; rw [e1, e2, e3]; rfl), rfl⟩

/-! ### A table -/
def cntK (lens : List Nat) : Nat → List Nat
  | 0 => List.replicate 16 0
  | k + 1 => if 0 < lens.getD k 0 then (cntK lens k).set (lens.getD k 0) ((cntK lens k).getD (lens.getD k 0) 0 + 1) else cntK lens k
theorem cntK_len (lens : List Nat) (k : Nat) : (cntK lens k).length = 16 := by
  induction k with
  | zero => simp [cntK]
  | succ k ih => unfold cntK; split <;> simp [ih]
theorem cntK_le (lens : List Nat) (k i : Nat) : (cntK lens k).getD i 0 ≤ k := by
  induction k generalizing i with
  | zero => unfold cntK; rw [List.getD_eq_getElem?_getD, List.getElem?_replicate]; split <;> simp
  | succ k ih =>
    unfold cntK
    split
    · rw [List.getD_eq_getElem?_getD, List.getElem?_set]
      split
      · split
        · have := ih (lens.getD k 0)
          simp only [Option.getD_some]; omega
        · simp
      · rw [← List.getD_eq_getElem?_getD]; have := ih i; omega
    · have := ih i; omega

set_option maxHeartbeats 4000000 in
theorem tbNew_ok (w : World) {A : Option Addr} {n c : Nat} {lens : List Nat} (hs : Sl w 1 A n (lens.map nv)) (hn : n ≤ 320) (h15 : ∀ x ∈ lens, x ≤ 15) :
    VC Tryd.prog 51 [.slice A n c] w (fun v w' => (if wholeB (cntK lens n) = true then ∃ t, v = .tuple #[.pointer (some ⟨t, 0, none⟩), .int .i64 0] ∧ TblV w' t (cntK lens n) (ordA lens 15) else v = .tuple #[.pointer none, .int .i64 10]) ∧ Keep No w w') := by
  have hll : lens.length = n := by simpa using hs.len
  refine VC.of tt_ok Tryd.func51 rfl (by decide +kernel) (Nat.le_of_ble_eq_true rfl) ?_; (conv => whnf)
  refine VCmp.mk (fun h => absurd h (by omega)) (fun _ => ?_); (conv => whnf)
  refine VDraw.by_ tt_ok rfl (.take 0 (.take 2 (.take 3 (.two 1 (.one 4 (.take 5 (.one 6 (.take 7 .done)))) 4 (.one 1 (.take 5 (.one 6 (.take 7 .done)))))))) (by decide +kernel) _ (fun x h1 h2 h3 h4 => Keep.ofHeap h1 h2 h3 h4) (fun wd hd kd => ?_)
  (conv => whnf)
  refine ⟨?_, ?_⟩
  · refine (cloneI_ok wd (hs.keepNo kd) (by omega)).mono ?_
    rintro v w1 ⟨L, cl, rfl, hoL, k1⟩
    (conv => whnf)
    refine VOwe.same (kd.trans k1) ?_
    (conv => whnf)
    refine VMake.row_ (n := n) (z := nv 0) (bytes := 8) Tryd.underlying107 (by kernel_rfl) rfl (by omega) (by omega) ?_
    intro w2 hcs k2
    have kc := k1.trans k2
    have kp : Keep No w w2 := kd.trans kc
    (conv => whnf)
    refine VOwe.same (kd.trans kc) ?_
    (conv => whnf)
    obtain ⟨cbk, hcbk⟩ : ∃ x, x = w1.heap.size := ⟨_, rfl⟩
    rw [← hcbk] at hcs
    rw [← hcbk]
    have hcb : w.heap.size ≤ cbk := by have := kd.size; have := k1.size; omega
    have hltc0 := Blk.lt hcs
    have hL := (Sl.ofOwn hoL).keepNo k2
    have hLs : ∀ a, L = some a → a.block ≠ cbk ∧ Ty w2 a.block TId := fun a ha => ⟨by have := (hoL.base_ ha).2; omega, (hoL.ty ha).keepNo k2⟩
    refine VFill.by_ rfl ?_; (conv => whnf)
    refine ⟨fun w3 ht k3 => ?_⟩
    have kp := kp.trans k3
    have kq := kd.trans (kc.trans k3)
    (conv => whnf)
    try (refine VOwe.same (kd.trans (kc.trans k3)) ?_; (conv => whnf))
    have ht : Blk w3 w2.heap.size TTb (tbC (.slice L n cl) (.slice (some ⟨cbk, 0, none⟩) n n) (.slice none 0 0) (cntK lens 0)) := ht
    have ht3 := ht
    have hcs := hcs.keepNo k3
    have hL := hL.keepNo k3
    have hLs : ∀ a, L = some a → a.block ≠ cbk ∧ Ty w3 a.block TId := fun a ha => ⟨(hLs a ha).1, (hLs a ha).2.keepNo k3⟩
    have hs3 := hs.keepNo kp
    have hw2 : w.heap.size ≤ w2.heap.size := by have := kd.size; have := kc.size; omega
    have hltc := Blk.lt hcs
    refine VLoop.by_ tt_ok (S := Nat) (fun k => [(4, .pointer (some ⟨w2.heap.size, 0, none⟩)), (17, .slice A n c), (18, .int .i64 n), (19, .int .i64 k)])
      (fun k w' => k ≤ n ∧ Blk w' w2.heap.size TTb (tbC (.slice L n cl) (.slice (some ⟨cbk, 0, none⟩) n n) (.slice none 0 0) (cntK lens k)) ∧ Keep (fun j => j = w2.heap.size) w3 w') (fun k => n - k) 0
      ⟨rfl, rfl, rfl, rfl, trivial⟩ ⟨by omega, ht, Keep.refl _ _⟩ ?_
    rintro k w' ⟨hk, ht, kk⟩
    have hcn := cntK_len lens k
    have kp := kp.fresh_ kk hw2
    (conv => whnf)
    refine VCmp.mk (fun h => ?_) (fun h => ?_) <;> (conv => whnf)
    · have hsw := hs.keepNo kp
      have hx15 : lens.getD k 0 ≤ 15 := by
        rw [List.getD_eq_getElem?_getD, List.getElem?_eq_getElem (by omega)]
        exact h15 _ (List.getElem_mem (by omega))
      have hcle := cntK_le lens k (lens.getD k 0)
      refine VIdx.nv hsw k rfl (by omega) (fun b_ o_ hA_ hc_ => ?_)
      (conv => whnf)
      refine VLoad.by_ hc_ ?_
      (conv => whnf)
      refine VCmp.mk (fun h2 => absurd h2 (by omega)) (fun _ => ?_); (conv => whnf)
      refine VCmp.mk (fun h2 => absurd h2 (by omega)) (fun _ => ?_); (conv => whnf)
      refine VCmp.mk (fun h2 => ?_) (fun h2 => ?_) <;> (conv => whnf)
      · have hcell : w'.cell? ⟨w2.heap.size, 3 + lens.getD k 0, none⟩ = some (.int .i64 (((cntK lens k).getD (lens.getD k 0) 0 : Nat) : Int)) := by rw [ht.cell]; exact tbC_cnt (by omega)
        refine VDraw.by_ tt_ok rfl (.take 0 (.take 1 (.take 2 (.take 3 (.take 4 (.take 5 (.take 6 (.take 7 (.take 8 (.take 9 (.one 10 .done))))))))))) (by decide +kernel) _ (fun x h1 h2 h3 h4 => Keep.ofHeap h1 h2 h3 h4) (fun wd hd kd => ?_)
        (conv => whnf)
        refine VIdxA.one (lens.getD k 0) rfl (by omega) rfl ?_
        (conv => whnf)
        refine VLoad.keep hcell ?_
        (conv => whnf)
        refine VRes.i64 (by omega) ?_; (conv => whnf)
        refine VIdxA.one (lens.getD k 0) rfl (by omega) rfl ?_
        (conv => whnf)
        refine VStore.one (ht.keepNo kd) (show 3 + lens.getD k 0 < (tbC (.slice L n cl) (.slice (some ⟨cbk, 0, none⟩) n n) (.slice none 0 0) (cntK lens k)).length from by rw [tbC_len]; omega) ?_
        intro w5 ht5 k5 _
        (conv => whnf)
        refine VOwe.to (fun _ => True) (fun h => absurd h (by decide +kernel)) trivial ?_; (conv => whnf)
        refine VRes.i64 (by omega) ?_; (conv => whnf)
        refine ⟨k + 1, ⟨rfl, rfl, rfl, rfl, trivial⟩, ⟨by omega, ?_, (kk.trans (kd.mono fun _ _ h => h.elim)).trans k5⟩, by omega⟩
        have e : cntK lens (k + 1) = (cntK lens k).set (lens.getD k 0) ((cntK lens k).getD (lens.getD k 0) 0 + 1) := by
          conv => lhs; unfold cntK
          rw [if_pos (by omega)]
        rw [e, ← tbC_setcnt (by omega)]
        exact ht5
      · refine VRes.i64 (by omega) ?_; (conv => whnf)
        refine ⟨k + 1, ⟨rfl, rfl, rfl, rfl, trivial⟩, ⟨by omega, ?_, kk⟩, by omega⟩
        have e : cntK lens (k + 1) = cntK lens k := by
          conv => lhs; unfold cntK
          rw [if_neg (by omega)]
        rw [e]
        exact ht
    obtain rfl : k = n := by omega
    refine (whole_ok w' ht hcn (fun i => by have := cntK_le lens k i; omega)).mono ?_
    rintro v w5 ⟨rfl, rfl⟩
    cases hwh : wholeB (cntK lens k) with
    | false =>
      (conv => whnf)
      rw [if_neg (by simp)]
      exact ⟨rfl, kp⟩
    | true =>
      (conv => whnf)
      refine (tbNumber_ok w w5 ht ⟨_, hcs.keep kk (by omega), by simp⟩ (hL.keep kk (fun a ha e => (hLs a ha).2.ne ht3.ty (by decide) e)) (fun a ha => ⟨(hLs a ha).1, (hLs a ha).2.keep kk (fun e => (hLs a ha).2.ne ht3.ty (by decide) e)⟩) hcn hw2 hcb kp hn).mono ?_
      rintro v w6 ⟨⟨rfl, htb⟩, kp⟩
      (conv => whnf)
      rw [if_pos rfl]
      exact ⟨⟨_, rfl, htb⟩, kp⟩
  · refine VMake.row_ (n := n) (z := nv 0) (bytes := 8) Tryd.underlying107 (by kernel_rfl) rfl (by omega) (by omega) ?_
    intro w1 hcs k1
    (conv => whnf)
    refine VOwe.same (kd.trans k1) ?_
    (conv => whnf)
    refine (cloneI_ok w1 ((hs.keepNo kd).keepNo k1) (by omega)).mono ?_
    rintro v w2 ⟨L, cl, rfl, hoL, k2⟩
    have kc := k1.trans k2
    have kp : Keep No w w2 := kd.trans kc
    (conv => whnf)
    refine VOwe.same (kd.trans kc) ?_
    (conv => whnf)
    obtain ⟨cbk, hcbk⟩ : ∃ x, x = wd.heap.size := ⟨_, rfl⟩
    rw [← hcbk] at hcs
    rw [← hcbk]
    have hcb : w.heap.size ≤ cbk := by have := kd.size; omega
    have hlt1 := Blk.lt hcs
    have hcs := hcs.keepNo k2
    have hltc0 := Blk.lt hcs
    have hL := Sl.ofOwn hoL
    have hLs : ∀ a, L = some a → a.block ≠ cbk ∧ Ty w2 a.block TId := fun a ha => ⟨by have := (hoL.base_ ha).1; omega, hoL.ty ha⟩
    refine VFill.by_ rfl ?_; (conv => whnf)
    refine ⟨fun w3 ht k3 => ?_⟩
    have kp := kp.trans k3
    have kq := kd.trans (kc.trans k3)
    (conv => whnf)
    try (refine VOwe.same (kd.trans (kc.trans k3)) ?_; (conv => whnf))
    have ht : Blk w3 w2.heap.size TTb (tbC (.slice L n cl) (.slice (some ⟨cbk, 0, none⟩) n n) (.slice none 0 0) (cntK lens 0)) := ht
    have ht3 := ht
    have hcs := hcs.keepNo k3
    have hL := hL.keepNo k3
    have hLs : ∀ a, L = some a → a.block ≠ cbk ∧ Ty w3 a.block TId := fun a ha => ⟨(hLs a ha).1, (hLs a ha).2.keepNo k3⟩
    have hs3 := hs.keepNo kp
    have hw2 : w.heap.size ≤ w2.heap.size := by have := kd.size; have := kc.size; omega
    have hltc := Blk.lt hcs
    refine VLoop.by_ tt_ok (S := Nat) (fun k => [(4, .pointer (some ⟨w2.heap.size, 0, none⟩)), (17, .slice A n c), (18, .int .i64 n), (19, .int .i64 k)])
      (fun k w' => k ≤ n ∧ Blk w' w2.heap.size TTb (tbC (.slice L n cl) (.slice (some ⟨cbk, 0, none⟩) n n) (.slice none 0 0) (cntK lens k)) ∧ Keep (fun j => j = w2.heap.size) w3 w') (fun k => n - k) 0
      ⟨rfl, rfl, rfl, rfl, trivial⟩ ⟨by omega, ht, Keep.refl _ _⟩ ?_
    rintro k w' ⟨hk, ht, kk⟩
    have hcn := cntK_len lens k
    have kp := kp.fresh_ kk hw2
    (conv => whnf)
    refine VCmp.mk (fun h => ?_) (fun h => ?_) <;> (conv => whnf)
    · have hsw := hs.keepNo kp
      have hx15 : lens.getD k 0 ≤ 15 := by
        rw [List.getD_eq_getElem?_getD, List.getElem?_eq_getElem (by omega)]
        exact h15 _ (List.getElem_mem (by omega))
      have hcle := cntK_le lens k (lens.getD k 0)
      refine VIdx.nv hsw k rfl (by omega) (fun b_ o_ hA_ hc_ => ?_)
      (conv => whnf)
      refine VLoad.by_ hc_ ?_
      (conv => whnf)
      refine VCmp.mk (fun h2 => absurd h2 (by omega)) (fun _ => ?_); (conv => whnf)
      refine VCmp.mk (fun h2 => absurd h2 (by omega)) (fun _ => ?_); (conv => whnf)
      refine VCmp.mk (fun h2 => ?_) (fun h2 => ?_) <;> (conv => whnf)
      · have hcell : w'.cell? ⟨w2.heap.size, 3 + lens.getD k 0, none⟩ = some (.int .i64 (((cntK lens k).getD (lens.getD k 0) 0 : Nat) : Int)) := by rw [ht.cell]; exact tbC_cnt (by omega)
        refine VDraw.by_ tt_ok rfl (.take 0 (.take 1 (.take 2 (.take 3 (.take 4 (.take 5 (.take 6 (.take 7 (.take 8 (.take 9 (.one 10 .done))))))))))) (by decide +kernel) _ (fun x h1 h2 h3 h4 => Keep.ofHeap h1 h2 h3 h4) (fun wd hd kd => ?_)
        (conv => whnf)
        refine VIdxA.one (lens.getD k 0) rfl (by omega) rfl ?_
        (conv => whnf)
        refine VLoad.keep hcell ?_
        (conv => whnf)
        refine VRes.i64 (by omega) ?_; (conv => whnf)
        refine VIdxA.one (lens.getD k 0) rfl (by omega) rfl ?_
        (conv => whnf)
        refine VStore.one (ht.keepNo kd) (show 3 + lens.getD k 0 < (tbC (.slice L n cl) (.slice (some ⟨cbk, 0, none⟩) n n) (.slice none 0 0) (cntK lens k)).length from by rw [tbC_len]; omega) ?_
        intro w5 ht5 k5 _
        (conv => whnf)
        refine VOwe.to (fun _ => True) (fun h => absurd h (by decide +kernel)) trivial ?_; (conv => whnf)
        refine VRes.i64 (by omega) ?_; (conv => whnf)
        refine ⟨k + 1, ⟨rfl, rfl, rfl, rfl, trivial⟩, ⟨by omega, ?_, (kk.trans (kd.mono fun _ _ h => h.elim)).trans k5⟩, by omega⟩
        have e : cntK lens (k + 1) = (cntK lens k).set (lens.getD k 0) ((cntK lens k).getD (lens.getD k 0) 0 + 1) := by
          conv => lhs; unfold cntK
          rw [if_pos (by omega)]
        rw [e, ← tbC_setcnt (by omega)]
        exact ht5
      · refine VRes.i64 (by omega) ?_; (conv => whnf)
        refine ⟨k + 1, ⟨rfl, rfl, rfl, rfl, trivial⟩, ⟨by omega, ?_, kk⟩, by omega⟩
        have e : cntK lens (k + 1) = cntK lens k := by
          conv => lhs; unfold cntK
          rw [if_neg (by omega)]
        rw [e]
        exact ht
    obtain rfl : k = n := by omega
    refine (whole_ok w' ht hcn (fun i => by have := cntK_le lens k i; omega)).mono ?_
    rintro v w5 ⟨rfl, rfl⟩
    cases hwh : wholeB (cntK lens k) with
    | false =>
      (conv => whnf)
      rw [if_neg (by simp)]
      exact ⟨rfl, kp⟩
    | true =>
      (conv => whnf)
      refine (tbNumber_ok w w5 ht ⟨_, hcs.keep kk (by omega), by simp⟩ (hL.keep kk (fun a ha e => (hLs a ha).2.ne ht3.ty (by decide) e)) (fun a ha => ⟨(hLs a ha).1, (hLs a ha).2.keep kk (fun e => (hLs a ha).2.ne ht3.ty (by decide) e)⟩) hcn hw2 hcb kp hn).mono ?_
      rintro v w6 ⟨⟨rfl, htb⟩, kp⟩
      (conv => whnf)
      rw [if_pos rfl]
      exact ⟨⟨_, rfl, htb⟩, kp⟩
end Go.Proofs.YtgmopcbfgcagaaaDoor
