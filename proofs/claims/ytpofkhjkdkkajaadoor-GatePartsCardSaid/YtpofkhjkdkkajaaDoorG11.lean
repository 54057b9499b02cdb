/-
  Gate: rows of what was seen as they come in; Seen.
-/
import Derived.Test.YtpofkhjkdkkajaaDoorG9
namespace Go.Proofs.YtpofkhjkdkkajaaDoor
open Go V Go.ChangeShapes Go.WideShapes Go.ChangeAt Go.RowKit

section
variable {H : Type} {enc : TypeId × Value → H} {P : Program} {w : World} {base : Nat} {spare : Nat → Bool} {held : Bool}
theorem trod_struct5 {t : TypeId} {f0 f1 f2 f3 f4 : Field} {fuel : Nat} {cs : List Value} {x : DataW H × List MemPlace} (ht : P.underlying t = some (.struct #[f0, f1, f2, f3, f4])) (h : DataW.trod enc P w base spare held fuel t cs = some x) :
    ∃ y0 y1 y2 y3 y4 n, cs.length = P.cellsOf t ∧ DataW.trod enc P w base spare held n f0.type ((cs.drop f0.offset).take (P.cellsOf f0.type)) = some y0 ∧ DataW.trod enc P w base spare held n f1.type ((cs.drop f1.offset).take (P.cellsOf f1.type)) = some y1 ∧
      DataW.trod enc P w base spare held n f2.type ((cs.drop f2.offset).take (P.cellsOf f2.type)) = some y2 ∧ DataW.trod enc P w base spare held n f3.type ((cs.drop f3.offset).take (P.cellsOf f3.type)) = some y3 ∧ DataW.trod enc P w base spare held n f4.type ((cs.drop f4.offset).take (P.cellsOf f4.type)) = some y4 := by
  obtain ⟨xs, n, _, _, hl, hlen, hf⟩ := DataW.trod_struct ht h
  match xs, hlen with
  | [y0, y1, y2, y3, y4], _ => exact ⟨y0, y1, y2, y3, y4, n, hl, by simpa using hf 0 f0 rfl, by simpa using hf 1 f1 rfl, by simpa using hf 2 f2 rfl, by simpa using hf 3 f3 rfl, by simpa using hf 4 f4 rfl⟩
end

section
variable {H : Type} {enc : TypeId × Value → H} {w : World} {spare : Nat → Bool} {held : Bool}

theorem open_kinds {fuel : Nat} {V : Value} {x : DataW H × List MemPlace} (h : DataW.trod enc Tryd.prog w 0 spare held fuel TSI [V] = some x) :
    ∃ (A : Option Addr) (n c : Nat) (l : List Int), V = .slice A n c ∧ Sl w 1 A n (l.map iv) ∧ l.length = n ∧ n ≤ c ∧ c ≤ 9223372036854775807 ∧ ∀ a, A = some a → 0 < n → a.block < w.heap.size := by
  rcases open_ints Tryd.underlying35 Tryd.underlying3 (by kernel_rfl) h with ⟨hcs, _⟩ | ⟨a, n, c, zs, hcs, _, hl, hm, hz, _, hcell, hwz⟩
  · obtain rfl : V = .slice none 0 0 := by simpa using hcs
    exact ⟨none, 0, 0, [], rfl, Sl.nil, rfl, Nat.le_refl _, by omega, fun a ha => by cases ha⟩
  · obtain rfl : V = .slice (some a) n c := by simpa using hcs
    have hzl : n ≤ zs.length := by rw [hz]; split <;> omega
    have hll : (zs.take n).length = n := by rw [List.length_take]; omega
    refine ⟨_, _, _, zs.take n, rfl, ⟨by rw [List.length_map, hll, Nat.mul_one], ?_⟩, hll, hl, by unfold maxLen at hm; omega, ?_⟩
    · rcases Nat.eq_zero_or_pos n with h0 | h0
      · exact .inl h0
      · have hs : a.spot = none := addr_none (hcell 0 (by omega)) (.inl rfl)
        obtain ⟨b, o, sp⟩ := a
        simp only at hs
        subst hs
        refine .inr ⟨b, o, rfl, fun j v hj => ?_⟩
        rw [List.getElem?_map] at hj
        have hjn : j < n := by
          rcases Nat.lt_or_ge j n with h | h
          · exact h
          · rw [List.getElem?_eq_none (by rw [List.length_take]; omega)] at hj; cases hj
        have := hcell j (by omega)
        rw [addr_add] at this
        rw [this]
        rw [List.getElem?_take_of_lt hjn, List.getElem?_eq_getElem (by omega)] at hj
        simp only [Option.map_some, Option.some.injEq] at hj
        rw [← hj, List.getD_eq_getElem?_getD, List.getElem?_eq_getElem (by omega)]
        rfl
    · intro a' ha h0
      cases ha
      have := cell_lt (hcell 0 (by omega))
      simpa [Addr.add] using this

theorem list5 {α : Type} : ∀ (l : List α), l.length = 5 → ∃ a b c d e, l = [a, b, c, d, e]
  | [a, b, c, d, e], _ => ⟨a, b, c, d, e, rfl⟩

theorem open_seens {fuel : Nat} {V : Value} {x : DataW H × List MemPlace} (h : DataW.trod enc Tryd.prog w 0 spare held fuel TSR [V] = some x) :
    ∃ (A : Option Addr) (n c : Nat) (cells : List Value) (ss : List Sn), V = .slice A n c ∧ Sl w 5 A n cells ∧ Sns w (fun k => k < w.heap.size) cells ss ∧ n ≤ c ∧ c ≤ 9223372036854775807 ∧ True := by
  rcases Go.Deep.open_slice Tryd.underlying41 h with ⟨hcs, _⟩ | ⟨a, n, c, m, fu, D, Pl, hcs, _, hl, hm, hmm, _, hx⟩
  · obtain rfl : V = .slice none 0 0 := by simpa using hcs
    exact ⟨none, 0, 0, [], [], rfl, Sl.nil, Sns.nil _ _, Nat.le_refl _, by omega, trivial⟩
  · obtain rfl : V = .slice (some a) n c := by simpa using hcs
    have hnm : n ≤ m := by rw [hmm]; split <;> omega
    have ce : Tryd.prog.cellsOf TRs = 5 := by kernel_rfl
    have ci : Tryd.prog.cellsOf 3 = 1 := by kernel_rfl
    have cs : Tryd.prog.cellsOf TSI = 1 := by kernel_rfl
    have cb : Tryd.prog.cellsOf 4 = 1 := by kernel_rfl
    have each : ∀ i, i < n → ∃ g : Sn, ∃ A2 c2, w.cell? (a.add (i * 5)) = some (iv g.proto) ∧ w.cell? ((a.add (i * 5)).add 1) = some (iv g.code) ∧ w.cell? ((a.add (i * 5)).add 2) = some (.slice A2 g.kinds.length c2) ∧ w.cell? ((a.add (i * 5)).add 3) = some (iv g.bytes) ∧ w.cell? ((a.add (i * 5)).add 4) = some (.bool g.enc) ∧
        Sl w 1 A2 g.kinds.length (g.kinds.map iv) ∧ g.kinds.length ≤ c2 ∧ ∀ a, A2 = some a → 0 < g.kinds.length → a.block < w.heap.size := by
      intro i hi
      obtain ⟨cs', h1, h2⟩ := hx i (by omega)
      rw [ce] at h1
      obtain ⟨_, hlen, hcell⟩ := World.cells?_some h1
      obtain ⟨y0, y1, y2, y3, y4, fu', _, g0, g1, g2, g3, g4⟩ := trod_struct5 Tryd.underlying44 h2
      obtain ⟨v0, v1, v2, v3, v4, rfl⟩ := list5 cs' hlen
      · skip
        simp only [ci, cs, cb, List.drop_zero, List.drop_succ_cons, List.take_succ_cons, List.take_zero] at g0 g1 g2 g3 g4
        obtain ⟨z0, e0, _, w0⟩ := DataW.trod_int Tryd.underlying3 g0
        obtain ⟨z1, e1, _, w1⟩ := DataW.trod_int Tryd.underlying3 g1
        obtain ⟨A2, n2, c2, l2, hv, s1, s2, s3, s4, s5⟩ := open_kinds g2
        obtain ⟨z3, e3, _, w3⟩ := DataW.trod_int Tryd.underlying3 g3
        obtain ⟨z4, e4, _⟩ := DataW.trod_bool Tryd.underlying4 g4
        cases e0; cases e1; cases e3; cases e4
        subst hv
        subst s2
        exact ⟨⟨z0, z1, l2, z3, z4⟩, A2, c2, by have := hcell 0 (by omega); rw [Go.Deep.add_add, Nat.add_zero] at this; exact this, hcell 1 (by omega), hcell 2 (by omega), hcell 3 (by omega), hcell 4 (by omega), s1, s3, s5⟩
    have : Inhabited Sn := ⟨⟨0, 0, [], 0, false⟩⟩
    obtain ⟨G, hG⟩ := Go.Deep.choose_lt each
    have : ∀ i, i < n → ∃ q : Option Addr × Nat, w.cell? ((a.add (i * 5)).add 2) = some (.slice q.1 (G i).kinds.length q.2) ∧ Sl w 1 q.1 (G i).kinds.length ((G i).kinds.map iv) ∧ (G i).kinds.length ≤ q.2 ∧ ∀ a, q.1 = some a → 0 < (G i).kinds.length → a.block < w.heap.size := fun i hi => by
      obtain ⟨A2, c2, _, _, h2, _, _, h5, h6, h7⟩ := hG i hi
      exact ⟨(A2, c2), h2, h5, h6, h7⟩
    obtain ⟨Q, hQ⟩ := Go.Deep.choose_lt this
    rcases Nat.eq_zero_or_pos n with h0 | h0
    · subst h0
      exact ⟨some a, 0, c, [], [], rfl, Sl.nil, Sns.nil _ _, hl, by unfold maxLen at hm; omega, trivial⟩
    obtain ⟨_, _, hz, _⟩ := hG 0 (by omega)
    have hs : a.spot = none := addr_none hz (.inl rfl)
    obtain ⟨b, o, sp⟩ := a
    simp only at hs
    subst hs
    simp only [addr_add] at hG hQ
    refine ⟨_, _, _, (List.range (n * 5)).map (fun j => if j % 5 = 0 then iv (G (j / 5)).proto else if j % 5 = 1 then iv (G (j / 5)).code else if j % 5 = 2 then .slice (Q (j / 5)).1 (G (j / 5)).kinds.length (Q (j / 5)).2 else if j % 5 = 3 then iv (G (j / 5)).bytes else .bool (G (j / 5)).enc), (List.range n).map G, rfl, ⟨by simp, .inr ⟨b, o, rfl, fun j v hj => ?_⟩⟩, ⟨by simp, ?_⟩, hl, by unfold maxLen at hm; omega, trivial⟩
    · have hjn : j < n * 5 := by
        rcases Nat.lt_or_ge j (n * 5) with h | h
        · exact h
        · rw [List.getElem?_eq_none (by simpa using h)] at hj; cases hj
      rw [List.getElem?_map, List.getElem?_range hjn] at hj
      simp only [Option.map_some, Option.some.injEq] at hj
      subst hj
      obtain ⟨_, _, h1, h2, _, h3, h4, _⟩ := hG (j / 5) (by omega)
      obtain ⟨h5, _⟩ := hQ (j / 5) (by omega)
      split
      · rw [show o + j = o + j / 5 * 5 from by omega]; exact h1
      · split
        · rw [show o + j = o + j / 5 * 5 + 1 from by omega]; exact h2
        · split
          · rw [show o + j = o + j / 5 * 5 + 2 from by omega]; exact h5
          · split
            · rw [show o + j = o + j / 5 * 5 + 3 from by omega]; exact h3
            · rw [show o + j = o + j / 5 * 5 + 4 from by omega]; exact h4
    · intro i g hg
      have hin : i < n := by
        rcases Nat.lt_or_ge i n with h | h
        · exact h
        · rw [List.getElem?_eq_none (by simpa using h)] at hg; cases hg
      rw [List.getElem?_map, List.getElem?_range hin] at hg
      simp only [Option.map_some, Option.some.injEq] at hg
      subst hg
      obtain ⟨_, q2, q3, q4⟩ := hQ i hin
      refine ⟨(Q i).1, (Q i).2, ?_, ?_, ?_, ?_, ?_, q2, q3, q4⟩
      all_goals rw [List.getElem?_map, List.getElem?_range (by omega)]; simp only [Option.map_some]
      · rw [if_pos (by omega), show i * 5 / 5 = i from by omega]
      · rw [if_neg (by omega), if_pos (by omega), show (i * 5 + 1) / 5 = i from by omega]
      · rw [if_neg (by omega), if_neg (by omega), if_pos (by omega), show (i * 5 + 2) / 5 = i from by omega]
      · rw [if_neg (by omega), if_neg (by omega), if_neg (by omega), if_pos (by omega), show (i * 5 + 3) / 5 = i from by omega]
      · rw [if_neg (by omega), if_neg (by omega), if_neg (by omega), if_neg (by omega), show (i * 5 + 4) / 5 = i from by omega]
end

theorem Sns.take {X : Nat → Prop} {w : World} {cells : List Value} {ss : List Sn} (h : Sns w X cells ss) (k : Nat) : Sns w X (cells.take (k * 5)) (ss.take k) := by
  have hl := h.1
  refine ⟨by rw [List.length_take, List.length_take]; omega, fun i s hi => ?_⟩
  rw [List.getElem?_take] at hi
  split at hi
  · obtain ⟨A, c, e0, e1, e2, e3, e4, r⟩ := h.2 i s hi
    refine ⟨A, c, ?_, ?_, ?_, ?_, ?_, r⟩
    all_goals (rw [List.getElem?_take, if_pos (by omega)]; assumption)
  · cases hi
theorem Sns.drop {X : Nat → Prop} {w : World} {cells : List Value} {ss : List Sn} (h : Sns w X cells ss) (k : Nat) : Sns w X (cells.drop (k * 5)) (ss.drop k) := by
  have hl := h.1
  refine ⟨by rw [List.length_drop, List.length_drop]; omega, fun i s hi => ?_⟩
  rw [List.getElem?_drop] at hi
  obtain ⟨A, c, e0, e1, e2, e3, e4, r⟩ := h.2 _ s hi
  refine ⟨A, c, ?_, ?_, ?_, ?_, ?_, r⟩
  · rw [List.getElem?_drop, show k * 5 + i * 5 = (k + i) * 5 from by omega]; exact e0
  · rw [List.getElem?_drop, show k * 5 + (i * 5 + 1) = (k + i) * 5 + 1 from by omega]; exact e1
  · rw [List.getElem?_drop, show k * 5 + (i * 5 + 2) = (k + i) * 5 + 2 from by omega]; exact e2
  · rw [List.getElem?_drop, show k * 5 + (i * 5 + 3) = (k + i) * 5 + 3 from by omega]; exact e3
  · rw [List.getElem?_drop, show k * 5 + (i * 5 + 4) = (k + i) * 5 + 4 from by omega]; exact e4
theorem Sns.one2 {X : Nat → Prop} {w : World} {A : Option Addr} {c : Nat} {s : Sn} (h1 : Sl w 1 A s.kinds.length (s.kinds.map iv)) (h2 : s.kinds.length ≤ c) (h3 : ∀ a, A = some a → 0 < s.kinds.length → X a.block) :
    Sns w X [iv s.proto, iv s.code, .slice A s.kinds.length c, iv s.bytes, .bool s.enc] [s] :=
  ⟨rfl, fun i p hp => by
    match i, hp with
    | 0, hp =>
      obtain rfl : s = p := by simpa using hp
      exact ⟨A, c, rfl, rfl, rfl, rfl, rfl, h1, h2, h3⟩
    | i + 1, hp => simp at hp⟩
theorem sn_at {X : Nat → Prop} {w : World} {A : Option Addr} {n : Nat} {cells : List Value} {ss : List Sn} (ho : Sns w X cells ss) (hs : Sl w 5 A n cells) {k : Nat} {x : Sn} (hx : ss[k]? = some x) :
    ∃ b o A1 c1, A = some ⟨b, o, none⟩ ∧ k < n ∧ w.cell? ⟨b, o + k * 5, none⟩ = some (iv x.proto) ∧ w.cell? ⟨b, o + k * 5 + 1, none⟩ = some (iv x.code) ∧ w.cell? ⟨b, o + k * 5 + 2, none⟩ = some (.slice A1 x.kinds.length c1) ∧ w.cell? ⟨b, o + k * 5 + 3, none⟩ = some (iv x.bytes) ∧ w.cell? ⟨b, o + k * 5 + 4, none⟩ = some (.bool x.enc) ∧
      Sl w 1 A1 x.kinds.length (x.kinds.map iv) ∧ x.kinds.length ≤ c1 ∧ ∀ a, A1 = some a → 0 < x.kinds.length → X a.block := by
  obtain ⟨A1, c1, e0, e1, e2, e3, e4, h4, h5, h6⟩ := ho.2 k x hx
  have hlt : k < ss.length := by
    rcases Nat.lt_or_ge k ss.length with h | h
    · exact h
    · rw [List.getElem?_eq_none h] at hx; cases hx
  have hl := ho.1
  have hl2 := hs.1
  obtain ⟨b, o, hA, hc⟩ := hs.at_ (by omega)
  exact ⟨b, o, A1, c1, hA, by omega, hc _ _ e0, by rw [Nat.add_assoc]; exact hc _ _ e1, by rw [Nat.add_assoc]; exact hc _ _ e2, by rw [Nat.add_assoc]; exact hc _ _ e3, by rw [Nat.add_assoc]; exact hc _ _ e4, h4, h5, h6⟩

theorem Seen26_ok (w : World) {A : Option Addr} {n c : Nat} {cells : List Value} {ss : List Sn} (hs : Sl w 5 A n cells) (ho : Sns w (fun k => k < w.heap.size) cells ss) (hn : n ≤ 100000) :
    VC Tryd.prog 15 [.slice A n c] w (fun v w' => (∃ A' c' cells', v = .slice A' n c' ∧ Own w' w.heap.size TG 5 A' n c' cells' ∧ Sns w' (fun k => k < w.heap.size) cells' ss) ∧ Keep No w w') := by
  have hl := ho.len hs
  refine VC.of tt_ok Tryd.func15 rfl (by decide +kernel) (Nat.le_of_ble_eq_true rfl) ?_; (conv => whnf)
  refine VLoop.by_ tt_ok (S := Nat × Option Addr × Nat × List Value) (fun | (k, Al, cl, _) => [(0, .slice A n c), (3, .slice Al k cl), (4, .int .i64 k)])
    (fun | (k, Al, cl, cs) => fun w' => k ≤ n ∧ Own w' w.heap.size TG 5 Al k cl cs ∧ Sns w' (fun k => k < w.heap.size) cs (ss.take k) ∧ Keep No w w') (fun | (k, _) => n - k)
    (0, none, 0, []) ⟨rfl, rfl, rfl, trivial⟩ ⟨by omega, Own.nil _ _ _ _, Sns.nil _ _, Keep.refl _ _⟩ ?_
  rintro ⟨k, Al, cl, cs⟩ w' ⟨hk, hown, hsn, kk⟩
  (conv => whnf)
  refine VCmp.mk (fun h => ?_) (fun h => ?_) <;> (conv => whnf)
  rotate_left 1
  · obtain rfl : k = n := by omega
    rw [List.take_of_length_le (by omega)] at hsn
    exact ⟨⟨Al, cl, cs, rfl, hown, hsn⟩, kk⟩
  obtain ⟨x, hx⟩ : ∃ x, ss[k]? = some x := ⟨_, List.getElem?_eq_getElem (by omega)⟩
  obtain ⟨b, o, A1, c1, hA, hkn, e0, e1, e2, e3, e4, s1, s2, s3⟩ := sn_at ho hs hx
  have kp := kk
  refine VDraw.by_ tt_ok rfl (.take 0 (.take 1 (.take 2 (.take 3 (.take 4 (.take 5 (.take 6 (.take 7 (.take 8 (.take 9 (.take 10 (.take 11 (.take 12 (.take 13 (.take 14 (.take 15 (.take 16 (.take 17 (.take 18 (.take 19 (.take 20 (.take 21 (.take 22 (.take 23 (.take 24 (.take 25 (.take 26 (.one 27 (.one 28 (.take 29 .done)))))))))))))))))))))))))))))) (by decide +kernel) (fun x => Keep No w x) (fun x h1 h2 h3 h4 => kp.trans (Keep.ofHeap h1 h2 h3 h4)) (fun wd hd kd => ?_)
  have kk := kk.keepNo kd; have hown := hown.keepNo kd; have hsn := hsn.keepNo kd
  (conv => whnf)
  refine VIdx.mul k rfl hkn hA ?_
  (conv => whnf)
  refine VLoad.by_ (fun x hx => hx.cell e0 id) ?_
  (conv => whnf)
  refine VIdx.mul k rfl hkn hA ?_
  (conv => whnf)
  refine VLoad.by_ (fun x hx => hx.cell e1 id) ?_
  (conv => whnf)
  refine VIdx.mul k rfl hkn hA ?_
  (conv => whnf)
  refine VLoad.by_ (fun x hx => hx.cell e2 id) ?_
  (conv => whnf)
  refine VIdx.mul k rfl hkn hA ?_
  (conv => whnf)
  refine VLoad.by_ (fun x hx => hx.cell e3 id) ?_
  (conv => whnf)
  refine VIdx.mul k rfl hkn hA ?_
  (conv => whnf)
  refine VLoad.by_ (fun x hx => hx.cell e4 id) ?_
  (conv => whnf)
  refine VFill.by_ rfl ?_; (conv => whnf)
  refine VFill.by_ rfl ?_; (conv => whnf)
  refine ⟨fun w2 hb2 hk2 => ?_⟩; have hb2_lt := Blk.lt hb2; have hk2_sz := hk2.size; (conv => whnf)
  have kk := kk.keepNo hk2; have hown := hown.keepNo hk2; have hsn := hsn.keepNo hk2
  refine VOwe.same kk ?_
  (conv => whnf)
  have hone : Sns w2 (fun k => k < w.heap.size) [iv x.proto, iv x.code, .slice A1 x.kinds.length c1, iv x.bytes, .bool x.enc] [x] := Sns.one2 (s1.keepNo kk) s2 s3
  refine appG (w0 := w) kk hown (Sl.ofBlk (n := 1) (size := 5) hb2 rfl) hone.cells1 (by omega) ?_
  intro A6 c6 w6 ho6 hk6 hkA
  have hsn6 := (Sns.append hsn hone).keep hkA (fun i hi ⟨a, ha, e⟩ => by have := (hown.base_ ha).1; have e : a.block = i := e; have hi : i < w.heap.size := hi; omega)
  (conv => whnf)
  refine VOwe.same hk6 ?_
  (conv => whnf)
  refine VRes.i64 (by omega) ?_; (conv => whnf)
  exact ⟨(k + 1, A6, c6, _), ⟨rfl, rfl, rfl, trivial⟩, ⟨by omega, ho6, by rw [List.take_add_one, hx]; exact hsn6, hk6⟩, by dsimp only; omega⟩

end Go.Proofs.YtpofkhjkdkkajaaDoor
