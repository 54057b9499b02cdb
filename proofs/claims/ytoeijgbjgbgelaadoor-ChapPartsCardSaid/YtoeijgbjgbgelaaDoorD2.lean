/-
  DES, the program's: the orders.
-/
import Derived.Test.YtoeijgbjgbgelaaDoorD1
namespace Go.Proofs.YtoeijgbjgbgelaaDoor
open Go V

abbrev TSId : TypeId := 47
abbrev TId : TypeId := 3
def nv (x : Nat) : Value := .int .i64 (x : Int)

theorem listed1_ok (w : World) {b A : _} {n c : Nat} {l : List Nat} (hb : Blk w b TSId [.slice A n c]) (hs : Sl w 1 A n (l.map nv)) {i : Nat} (hi : i < n) :
    VC Tryd.prog 62 [.int .i64 (i : Int), .pointer (some ⟨b, 0, none⟩)] w (fun v w' => v = .int .i64 (l.getD i 0 : Nat) ∧ Keep No w w') := by
  have hl : l.length = n := by simpa using hs.len
  refine VC.of tt_ok Tryd.func62 rfl (by decide +kernel) (Nat.le_of_ble_eq_true rfl) ?_; (conv => whnf)
  refine VLoad.by_ ((hb).cell 0) ?_; (conv => whnf)
  obtain ⟨b_, o_, hA, hc⟩ := hs.at_ (by omega)
  refine VIdx.one i rfl hi hA ?_
  (conv => whnf)
  refine VLoad.by_ (hc i (nv (l.getD i 0)) (by rw [List.getElem?_map, List.getElem?_eq_getElem (by omega), List.getD_eq_getElem?_getD, List.getElem?_eq_getElem (by omega)]; rfl)) ?_
  (conv => whnf)
  exact ⟨rfl, Keep.refl _ _⟩
theorem listed_ok (w : World) {A : Option Addr} {n c : Nat} {l : List Nat} (hs : Sl w 1 A n (l.map nv)) :
    VC Tryd.prog 56 [.slice A n c] w (fun v w' => (∃ cs, v = .func (.func 62) #[] cs ∧ OrdV w' 62 [] cs.toList n (fun i => l.getD i 0)) ∧ Keep No w w') := by
  refine VC.of tt_ok Tryd.func56 rfl (by decide +kernel) (Nat.le_of_ble_eq_true rfl) ?_; (conv => whnf)
  refine ⟨fun w1 hb kp => ?_⟩; have hb_lt := Blk.lt hb; have kp_sz := kp.size; (conv => whnf)
  refine ⟨⟨_, rfl, ?_⟩, kp⟩
  intro w2 k2 i hi
  exact listed1_ok w2 (hb.keepNo k2) ((hs.keepNo kp).keepNo k2) hi

def firstO (i : Nat) : Nat := [58, 60, 62, 64, 57, 59, 61, 63].getD (i / 8) 0 - 8 * (i % 8)
theorem firstO_all : ∀ i, i < 64 → 1 ≤ firstO i ∧ firstO i ≤ 64 ∧ 8 * (i % 8) ≤ [58, 60, 62, 64, 57, 59, 61, 63].getD (i / 8) 0 := by
  have : ∀ i : Fin 64, 1 ≤ firstO i.val ∧ firstO i.val ≤ 64 ∧ 8 * (i.val % 8) ≤ [58, 60, 62, 64, 57, 59, 61, 63].getD (i.val / 8) 0 := by decide +kernel
  exact fun i h => this ⟨i, h⟩
theorem VRes.mk' {v : Value} {K : Value → Prop} (h : K v) : VRes v K := ⟨h⟩
theorem first_ok (w : World) {i : Nat} (hi : i < 64) :
    VC Tryd.prog 35 [.int .i64 (i : Int)] w (fun v w' => v = .int .i64 (firstO i : Nat) ∧ Keep No w w') := by
  have hf := firstO_all i hi
  refine VC.of tt_ok Tryd.func35 rfl (by decide +kernel) (Nat.le_of_ble_eq_true rfl) ?_; (conv => whnf)
  refine VFill.by_ rfl ?_; (conv => whnf)
  refine ⟨fun w1 hb1 hk1 => ?_⟩; have hb1_lt := Blk.lt hb1; have hk1_sz := hk1.size; (conv => whnf); (refine VReq.mk ⟨rfl, (fun u hu => List.all_eq_true.mp (show List.all _ (fun u => u.oneCell') = true by rfl) u hu)⟩ ?_; (conv => whnf)); refine VStore.all hb1 rfl ?_; intro w2 hb2 hk2 hk2_sz; have hk2 := Keep.fresh_ hk1 hk2 (Nat.le_refl _); (conv => whnf)
  have q1 : (i : Int).tdiv 8 = ((i / 8 : Nat) : Int) := by rw [Int.tdiv_eq_ediv_of_nonneg (by omega)]; rfl
  have q2 : (i : Int).tmod 8 = ((i % 8 : Nat) : Int) := by rw [Int.tmod_eq_emod_of_nonneg (by omega)]; rfl
  unfold firstO at hf ⊢
  have hc : w2.cell? ⟨w.heap.size, i / 8, none⟩ = some (nv ([58, 60, 62, 64, 57, 59, 61, 63].getD (i / 8) 0)) := by
    rw [hb2.cell]
    show (List.map nv [58, 60, 62, 64, 57, 59, 61, 63])[i / 8]? = _
    rw [List.getElem?_map, List.getD_eq_getElem?_getD, List.getElem?_eq_getElem (by show i / 8 < 8; omega)]
    rfl
  obtain ⟨x, hx⟩ : ∃ x, x = [58, 60, 62, 64, 57, 59, 61, 63].getD (i / 8) 0 := ⟨_, rfl⟩
  have hx64 : x ≤ 64 := by
    have : ∀ j : Fin 8, [58, 60, 62, 64, 57, 59, 61, 63].getD j.val 0 ≤ 64 := by decide
    rw [hx]; exact this ⟨i / 8, by omega⟩
  rw [← hx] at hc hf ⊢
  refine VReq.mk (by omega) ?_
  refine VRes.i64 (by rw [q1]; omega) ?_
  rw [q1]
  (conv => whnf)
  refine VIdxA.one (i / 8) rfl (by omega) rfl ?_
  (conv => whnf)
  refine VLoad.by_ (by simpa using hc) ?_
  (conv => whnf)
  refine VReq.mk (by omega) ?_
  refine VRes.mk' ?_
  rw [q2]
  (conv => whnf)
  refine VRes.i64 (by omega) ?_; (conv => whnf)
  refine VRes.i64 (by omega) ?_; (conv => whnf)
  rw [show (x : Int) - 8 * ((i % 8 : Nat) : Int) = ((x - 8 * (i % 8) : Nat) : Int) from by omega]
  exact ⟨rfl, hk2⟩
def wideO (i : Nat) : Nat := (i / 6 * 4 + i % 6 + 31) % 32 + 1
theorem wide_ok (w : World) {i : Nat} (hi : i < 48) :
    VC Tryd.prog 39 [.int .i64 (i : Int)] w (fun v w' => v = .int .i64 (wideO i : Nat) ∧ Keep No w w') := by
  refine VC.of tt_ok Tryd.func39 rfl (by decide +kernel) (Nat.le_of_ble_eq_true rfl) ?_; (conv => whnf)
  have q1 : (i : Int).tdiv 6 = ((i / 6 : Nat) : Int) := by rw [Int.tdiv_eq_ediv_of_nonneg (by omega)]; rfl
  have q2 : (i : Int).tmod 6 = ((i % 6 : Nat) : Int) := by rw [Int.tmod_eq_emod_of_nonneg (by omega)]; rfl
  refine VReq.mk (by omega) ?_
  refine VRes.i64 (by rw [q1]; omega) ?_
  rw [q1]
  (conv => whnf)
  refine VRes.i64 (by omega) ?_; (conv => whnf)
  refine VReq.mk (by omega) ?_
  refine VRes.mk' ?_
  rw [q2]
  (conv => whnf)
  refine VRes.i64 (by omega) ?_; (conv => whnf)
  refine VRes.i64 (by omega) ?_; (conv => whnf)
  refine VReq.mk (by omega) ?_
  refine VRes.mk' ?_
  rw [show ((((i / 6 : Nat) : Int) * 4 + ((i % 6 : Nat) : Int) + 31).tmod 32) = (((i / 6 * 4 + i % 6 + 31) % 32 : Nat) : Int) from by rw [Int.tmod_eq_emod_of_nonneg (by omega)]; omega]
  (conv => whnf)
  refine VRes.i64 (by omega) ?_; (conv => whnf)
  exact ⟨rfl, Keep.refl _ _⟩
def withoutO (l : List Nat) (i : Nat) : Nat := (l.getD i 0 - 1) / 8 * 7 + (l.getD i 0 - 1) % 8 + 1
theorem without1_ok (w : World) {b A : _} {n c : Nat} {l : List Nat} (hb : Blk w b TSId [.slice A n c]) (hs : Sl w 1 A n (l.map nv)) {i : Nat} (hi : i < n) (hr : 1 ≤ l.getD i 0 ∧ l.getD i 0 ≤ 1000) :
    VC Tryd.prog 61 [.int .i64 (i : Int), .pointer (some ⟨b, 0, none⟩)] w (fun v w' => v = .int .i64 (withoutO l i : Nat) ∧ Keep No w w') := by
  have hl : l.length = n := by simpa using hs.len
  obtain ⟨b_, o_, hA, hc⟩ := hs.at_ (by omega)
  have hv := hc i (nv (l.getD i 0)) (by rw [List.getElem?_map, List.getElem?_eq_getElem (by omega), List.getD_eq_getElem?_getD, List.getElem?_eq_getElem (by omega)]; rfl)
  unfold withoutO
  obtain ⟨x, hx⟩ : ∃ x, x = l.getD i 0 := ⟨_, rfl⟩
  rw [← hx] at hv hr ⊢
  refine VC.of tt_ok Tryd.func61 rfl (by decide +kernel) (Nat.le_of_ble_eq_true rfl) ?_; (conv => whnf)
  refine VDraw.by_ tt_ok rfl (.take 0 (.take 1 (.take 2 (.take 3 (.take 4 (.take 5 (.take 6 (.take 7 (.take 8 (.take 9 (.take 10 (.take 11 (.take 12 (.take 13 (.take 14 (.take 15 .done)))))))))))))))) (by decide +kernel) _ (fun x h1 h2 h3 h4 => Keep.ofHeap h1 h2 h3 h4) (fun wd hd kd => ?_)
  (conv => whnf)
  refine VLoad.keep (hb.cell 0) ?_
  (conv => whnf)
  refine VIdx.one i rfl hi hA ?_
  (conv => whnf)
  refine VLoad.keep hv ?_
  (conv => whnf)
  refine VRes.i64 (by omega) ?_; (conv => whnf)
  refine VReq.mk (by omega) ?_
  refine VRes.i64 (by rw [Int.tdiv_eq_ediv_of_nonneg (by omega)]; omega) ?_
  rw [show ((x : Int) - 1).tdiv 8 = (((x - 1) / 8 : Nat) : Int) from by rw [Int.tdiv_eq_ediv_of_nonneg (by omega)]; omega]
  (conv => whnf)
  refine VRes.i64 (by omega) ?_; (conv => whnf)
  refine VLoad.keep (hb.cell 0) ?_
  (conv => whnf)
  refine VIdx.one i rfl hi hA ?_
  (conv => whnf)
  refine VLoad.keep hv ?_
  (conv => whnf)
  refine VRes.i64 (by omega) ?_; (conv => whnf)
  refine VReq.mk (by omega) ?_
  refine VRes.mk' ?_
  rw [show ((x : Int) - 1).tmod 8 = (((x - 1) % 8 : Nat) : Int) from by rw [Int.tmod_eq_emod_of_nonneg (by omega)]; omega]
  (conv => whnf)
  refine VRes.i64 (by omega) ?_; (conv => whnf)
  refine VRes.i64 (by omega) ?_; (conv => whnf)
  exact ⟨rfl, kd⟩
theorem without_ok (w : World) {A : Option Addr} {n c : Nat} {l : List Nat} (hs : Sl w 1 A n (l.map nv)) (hr : ∀ i, i < n → 1 ≤ l.getD i 0 ∧ l.getD i 0 ≤ 1000) :
    VC Tryd.prog 50 [.slice A n c] w (fun v w' => (∃ cs, v = .func (.func 61) #[] cs ∧ OrdV w' 61 [] cs.toList n (withoutO l)) ∧ Keep No w w') := by
  refine VC.of tt_ok Tryd.func50 rfl (by decide +kernel) (Nat.le_of_ble_eq_true rfl) ?_; (conv => whnf)
  refine ⟨fun w1 hb kp => ?_⟩; have hb_lt := Blk.lt hb; have kp_sz := kp.size; (conv => whnf)
  refine ⟨⟨_, rfl, ?_⟩, kp⟩
  intro w2 k2 i hi
  exact without1_ok w2 (hb.keepNo k2) ((hs.keepNo kp).keepNo k2) hi (hr i hi)
end Go.Proofs.YtoeijgbjgbgelaaDoor
