/-
  Package packet: fault, number.
-/
import Derived.Test.YtpofkhjkdkkajaaDoorP0
import Derived.Test.YtpofkhjkdkkajaaDoorSt0
namespace Go.Proofs.YtpofkhjkdkkajaaDoor.Pk
open Go V

theorem isNil_ok (w : World) (k : Int) : VC Tryd.prog 59 [.nilIface, .iface TErrno (.int .i64 k)] w (fun v w' => v = .bool false ∧ w = w') :=
  ⟨⟨_, Tryd.func59, by kernel_rfl, by kernel_rfl⟩, (Er.is_nil k w).mono fun e w' ⟨h1, h2⟩ => by subst h1; exact ⟨rfl, h2.symm⟩⟩
theorem isFault_ok (w : World) (b : Nat) (n k : Int) (h : w.cell? ⟨b, 1, none⟩ = some (.int .i64 n)) : VC Tryd.prog 59 [.iface TFltP (.pointer (some ⟨b, 0, none⟩)), .iface TErrno (.int .i64 k)] w (fun v w' => v = .bool (n == k) ∧ w = w') :=
  ⟨⟨_, Tryd.func59, by kernel_rfl, by kernel_rfl⟩, (Er.is_fault b n k w h).mono fun e w' ⟨h1, h2⟩ => by subst h1; exact ⟨rfl, h2.symm⟩⟩

theorem fault_ok (w : World) (k : Int) : VC Tryd.prog 57 [.int .i64 k] w (fun v w' => v = .iface TFltP (.pointer (some ⟨w.heap.size, 0, none⟩)) ∧ w'.cell? ⟨w.heap.size, 1, none⟩ = some (.int .i64 k) ∧ Keep No w w') := by
  refine VC.of tt_ok Tryd.func57 rfl (by decide +kernel) (Nat.le_of_ble_eq_true rfl) ?_; (conv => whnf)
  refine VFill.by_ rfl ?_
  (conv => whnf)
  refine ⟨fun w1 hb1 hk1 => ?_⟩
  (conv => whnf)
  exact ⟨rfl, by rw [hb1.cell]; rfl, hk1⟩

/-- An error as a value: none, or a fault around a number. -/
def ErrV (w : World) (E : Value) (n : Int) : Prop := (E = .nilIface ∧ n = 0) ∨ ∃ b, E = .iface TFltP (.pointer (some ⟨b, 0, none⟩)) ∧ w.cell? ⟨b, 1, none⟩ = some (.int .i64 n) ∧ n ≠ 0
theorem ErrV.keepNo {w w' : World} {E : Value} {n : Int} (h : ErrV w E n) (k : Keep No w w') : ErrV w' E n := by
  rcases h with h | ⟨b, h1, h2, h3⟩
  · exact .inl h
  · exact .inr ⟨b, h1, k.cell h2 id, h3⟩
theorem is_ok {w : World} {E : Value} {n : Int} (h : ErrV w E n) (k : Int) (hk : k ≠ 0) : VC Tryd.prog 59 [E, .iface TErrno (.int .i64 k)] w (fun v w' => v = .bool (n == k) ∧ w = w') := by
  rcases h with ⟨rfl, rfl⟩ | ⟨b, rfl, h2, _⟩
  · refine (isNil_ok w k).mono ?_
    rintro v w' ⟨rfl, rfl⟩
    exact ⟨congrArg Value.bool (by symm; simpa using fun e => hk e.symm), rfl⟩
  · exact isFault_ok w b n k h2

def ie (k : Int) : Value := .int .i64 k
theorem number_ok (w : World) {E : Value} {n : Int} (hE : ErrV w E n) {A : Option Addr} {m c : Nat} {ks : List Int} (hs : Sl w 1 A m (ks.map ie)) (hm : m ≤ 1000) (h0 : ∀ k ∈ ks, k ≠ 0) :
    VC Tryd.prog 49 [E, .slice A m c] w (fun v w' => v = .int .i64 (if n ∈ ks then n else 0) ∧ w = w') := by
  have hl : ks.length = m := by simpa using hs.len
  refine VC.of tt_ok Tryd.func49 rfl (by decide +kernel) (Nat.le_of_ble_eq_true rfl) ?_; (conv => whnf)
  refine VLoop.by_ tt_ok (S := Nat) (fun i => [(0, E), (7, .slice A m c), (8, .int .i64 m), (9, .int .i64 i)]) (fun i w' => i ≤ m ∧ (∀ k ∈ ks.take i, n ≠ k) ∧ w = w') (fun i => m - i) 0 ⟨rfl, rfl, rfl, rfl, trivial⟩ ⟨Nat.zero_le _, by simp, rfl⟩ ?_
  rintro i w' ⟨hi, ht, rfl⟩
  (conv => whnf)
  refine VCmp.mk (fun h => ?_) (fun h => ?_) <;> (conv => whnf)
  · obtain ⟨k, hk⟩ : ∃ k, ks[i]? = some k := ⟨_, List.getElem?_eq_getElem (by omega)⟩
    have hkm := List.mem_of_getElem? hk
    obtain ⟨b, o, hA, hc⟩ := hs.at_ (by omega)
    refine VIdx.one i rfl (by omega) hA ?_
    (conv => whnf)
    refine VLoad.by_ (hc i (ie k) (by simp [hk])) ?_
    (conv => whnf)
    refine (is_ok hE k (h0 k hkm)).mono ?_
    rintro v w' ⟨rfl, rfl⟩
    by_cases hnk : n = k
    · subst hnk
      rw [show (n == n) = true from by simp]
      (conv => whnf)
      exact ⟨by rw [if_pos hkm]; rfl, rfl⟩
    · rw [show (n == k) = false from by simpa using hnk]
      (conv => whnf)
      refine VRes.i64 (by omega) ?_
      (conv => whnf)
      refine ⟨i + 1, ⟨rfl, rfl, rfl, rfl, trivial⟩, ⟨by omega, ?_, rfl⟩, by omega⟩
      intro x hx
      rw [List.take_add_one, hk] at hx
      rcases List.mem_append.1 hx with h1 | h1
      · exact ht x h1
      · obtain rfl : x = k := by simpa using h1
        exact hnk
  · rw [List.take_of_length_le (by omega)] at ht
    exact ⟨by rw [if_neg (fun h1 => ht n h1 rfl)]; rfl, rfl⟩
end Go.Proofs.YtpofkhjkdkkajaaDoor.Pk
