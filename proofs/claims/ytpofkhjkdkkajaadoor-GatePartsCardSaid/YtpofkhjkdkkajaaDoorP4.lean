/-
  Options: a row of them in memory; packet's Options, split, Split, Same; the reference's.
-/
import Derived.Test.YtpofkhjkdkkajaaDoorP3
namespace Go.Proofs.YtpofkhjkdkkajaaDoor.Pk
open Go V

abbrev TOp : TypeId := 87
abbrev TSOp : TypeId := 83
structure Opt where
  t : Int
  data : List UInt8
theorem Opt.ext_ {p q : Opt} (h1 : p.t = q.t) (h2 : p.data = q.data) : p = q := by cases p; cases q; simp_all
instance : DecidableEq Opt := fun p q => decidable_of_iff (p.t = q.t ∧ p.data = q.data) ⟨fun ⟨a, b⟩ => Opt.ext_ a b, fun h => by subst h; exact ⟨rfl, rfl⟩⟩

/-- These cells are those options; their data in blocks of X. -/
def Ops (w : World) (X : Nat → Prop) (cells : List Value) (os : List Opt) : Prop :=
  cells.length = os.length * 2 ∧ ∀ (i : Nat) (o : Opt), os[i]? = some o → ∃ A c, cells[i * 2]? = some (.int .i64 o.t) ∧ cells[i * 2 + 1]? = some (.slice A o.data.length c) ∧ o.data.length ≤ c ∧ Sl w 1 A o.data.length (o.data.map vb) ∧ ∀ a, A = some a → 0 < o.data.length → X a.block

theorem Ops.nil (w : World) (X : Nat → Prop) : Ops w X [] [] := ⟨rfl, fun i o h => by simp at h⟩
theorem Ops.keep {S X : Nat → Prop} {w w' : World} {cells : List Value} {os : List Opt} (h : Ops w X cells os) (k : Keep S w w') (hs : ∀ i, X i → ¬ S i) : Ops w' X cells os :=
  ⟨h.1, fun i o ho => by
    obtain ⟨A, c, h1, h2, h3, h4, h5⟩ := h.2 i o ho
    exact ⟨A, c, h1, h2, h3, h4.keepP k (fun a ha h0 => hs _ (h5 a ha h0)), h5⟩⟩
theorem Ops.keepNo {X : Nat → Prop} {w w' : World} {cells : List Value} {os : List Opt} (h : Ops w X cells os) (k : Keep No w w') : Ops w' X cells os := h.keep k (fun _ _ => id)
theorem Ops.mono {X Y : Nat → Prop} {w : World} {cells : List Value} {os : List Opt} (h : Ops w X cells os) (hs : ∀ i, X i → Y i) : Ops w Y cells os :=
  ⟨h.1, fun i o ho => by
    obtain ⟨A, c, h1, h2, h3, h4, h5⟩ := h.2 i o ho
    exact ⟨A, c, h1, h2, h3, h4, fun a ha h0 => hs _ (h5 a ha h0)⟩⟩
theorem Ops.append {X : Nat → Prop} {w : World} {c1 c2 : List Value} {o1 o2 : List Opt} (h : Ops w X c1 o1) (h' : Ops w X c2 o2) : Ops w X (c1 ++ c2) (o1 ++ o2) := by
  refine ⟨by rw [List.length_append, List.length_append, h.1, h'.1, Nat.add_mul], fun i o ho => ?_⟩
  by_cases hi : i < o1.length
  · rw [List.getElem?_append_left hi] at ho
    obtain ⟨A, c, e1, e2, r⟩ := h.2 i o ho
    have := h.1
    exact ⟨A, c, by rw [List.getElem?_append_left (by omega)]; exact e1, by rw [List.getElem?_append_left (by omega)]; exact e2, r⟩
  · rw [List.getElem?_append_right (by omega)] at ho
    obtain ⟨A, c, e1, e2, r⟩ := h'.2 _ o ho
    have := h.1
    exact ⟨A, c, by rw [List.getElem?_append_right (by omega), show i * 2 - c1.length = (i - o1.length) * 2 from by omega]; exact e1,
      by rw [List.getElem?_append_right (by omega), show i * 2 + 1 - c1.length = (i - o1.length) * 2 + 1 from by omega]; exact e2, r⟩
theorem Ops.one_ {X : Nat → Prop} {w : World} {A : Option Addr} {c : Nat} {o : Opt} (h1 : o.data.length ≤ c) (h2 : Sl w 1 A o.data.length (o.data.map vb)) (h3 : ∀ a, A = some a → 0 < o.data.length → X a.block) :
    Ops w X [.int .i64 o.t, .slice A o.data.length c] [o] :=
  ⟨rfl, fun i p hp => by
    match i, hp with
    | 0, hp =>
      obtain rfl : o = p := by simpa using hp
      exact ⟨A, c, rfl, rfl, h1, h2, h3⟩
    | i + 1, hp => simp at hp⟩
theorem Ops.one' {X : Nat → Prop} {w : World} {A : Option Addr} {n c : Nat} {t : Int} {o : Opt} (hn : o.data.length = n) (ht : o.t = t) (h1 : n ≤ c) (h2 : Sl w 1 A n (o.data.map vb)) (h3 : ∀ a, A = some a → 0 < n → X a.block) :
    Ops w X [.int .i64 t, .slice A n c] [o] := by
  subst hn; subst ht
  exact Ops.one_ h1 h2 h3
theorem Ops.cells1 {X : Nat → Prop} {w : World} {cells : List Value} {os : List Opt} (h : Ops w X cells os) : ∀ u ∈ cells, u.oneCell' = true := by
  intro u hu
  obtain ⟨i, hi⟩ := List.getElem?_of_mem hu
  have hlt : i < cells.length := by
    rcases Nat.lt_or_ge i cells.length with h | h
    · exact h
    · rw [List.getElem?_eq_none h] at hi; cases hi
  have hl := h.1
  obtain ⟨A, c, h1, h2, _⟩ := h.2 (i / 2) _ (List.getElem?_eq_getElem (by omega))
  have hh : i = i / 2 * 2 ∨ i = i / 2 * 2 + 1 := by omega
  rcases hh with e | e
  · rw [← e, hi] at h1; cases h1; rfl
  · rw [← e, hi] at h2; cases h2; rfl

/-- One option of a row in memory. -/
theorem Ops.at_ {X : Nat → Prop} {w : World} {A : Option Addr} {n : Nat} {cells : List Value} {os : List Opt} (ho : Ops w X cells os) (hs : Sl w 2 A n cells) {k : Nat} {x : Opt} (hx : os[k]? = some x) :
    ∃ b o A1 c1, A = some ⟨b, o, none⟩ ∧ k < n ∧ w.cell? ⟨b, o + k * 2, none⟩ = some (.int .i64 x.t) ∧ w.cell? ⟨b, o + k * 2 + 1, none⟩ = some (.slice A1 x.data.length c1) ∧ x.data.length ≤ c1 ∧ Sl w 1 A1 x.data.length (x.data.map vb) := by
  obtain ⟨A1, c1, h1, h2, h3, h4, _⟩ := ho.2 k x hx
  have hlt : k < os.length := by
    rcases Nat.lt_or_ge k os.length with h | h
    · exact h
    · rw [List.getElem?_eq_none h] at hx; cases hx
  have hl := ho.1
  have hl2 := hs.1
  obtain ⟨b, o, hA, hc⟩ := hs.at_ (by omega)
  exact ⟨b, o, A1, c1, hA, by omega, hc _ _ h1, by rw [Nat.add_assoc]; exact hc _ _ h2, h3, h4⟩
theorem Ops.len {X : Nat → Prop} {w : World} {A : Option Addr} {n : Nat} {cells : List Value} {os : List Opt} (ho : Ops w X cells os) (hs : Sl w 2 A n cells) : os.length = n := by
  have := ho.1
  have := hs.1
  omega

/-! ### Options' bytes -/
def Opt.good (o : Opt) : Prop := 0 ≤ o.t ∧ o.t ≤ 255 ∧ o.data.length ≤ 253
instance (o : Opt) : Decidable o.good := inferInstanceAs (Decidable (_ ∧ _ ∧ _))
def Opt.enc (o : Opt) : List UInt8 := [UInt8.ofNat o.t.toNat, UInt8.ofNat (o.data.length + 2)] ++ o.data
def encOs (os : List Opt) : List UInt8 := os.flatMap Opt.enc
def optsP (os : List Opt) : List UInt8 × Int := if 32 < os.length then ([], 3) else if ∀ o ∈ os, o.good then (encOs os, 0) else ([], 1)

theorem encOs_snoc (os : List Opt) (k : Nat) (x : Opt) (h : os[k]? = some x) : encOs (os.take (k + 1)) = encOs (os.take k) ++ x.enc := by
  rw [List.take_add_one, h]
  simp [encOs]
theorem encOs_len (os : List Opt) (h : ∀ o ∈ os, o.good) : (encOs os).length ≤ 255 * os.length := by
  induction os with
  | nil => simp [encOs]
  | cons x r ih =>
    have h1 : encOs (x :: r) = x.enc ++ encOs r := by simp [encOs]
    have h2 := ih (fun o ho => h o (by simp [ho]))
    have h3 := h x (by simp)
    have h4 : x.enc.length = 2 + x.data.length := by simp [Opt.enc]; omega
    unfold Opt.good at h3
    rw [h1, List.length_append, List.length_cons]
    omega



end Go.Proofs.YtpofkhjkdkkajaaDoor.Pk
