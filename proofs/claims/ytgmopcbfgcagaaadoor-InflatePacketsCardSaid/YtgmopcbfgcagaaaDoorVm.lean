/-
  Conversions: of a slice of bytes to its own type (a literal's row gets a mark), of a string to bytes.
-/
import Derived.Test.YtgmopcbfgcagaaaDoorVb
import Derived.Lib.SlBytesConst
import Derived.Lib.ConvBytes
namespace Go.Proofs.YtgmopcbfgcagaaaDoor
open Go V

theorem VConv.mark {w : World} {b n c : Nat} {cs : List Value} {K : Value → World → Prop} (hb : Blk w b T8 cs)
    (hK : ∀ w', (∀ i, w'.cell? ⟨b, i, none⟩ = cs[i]?) → Keep (fun k => k = b) w w' → K (.slice (some ⟨b, 0, none⟩) n c) w') :
    VConv Tryd.prog w TS8 TS8 (.slice (some ⟨b, 0, none⟩) n c) K := by
  have hsh : w.shape? b = some (T8, cs.length) := by
    unfold World.shape?
    unfold Blk at hb
    rw [hb]
    simp
  have hlt := Blk.lt hb
  have hget : (w.freeze ⟨b, cs.length, none⟩ 1).heap[b]? = some (.cells cs.toArray T8 (cs.length, cs.length + 1)) := by
    unfold World.freeze
    rw [if_neg (by decide)]
    show (w.heap.modify b _)[b]? = _
    unfold Blk at hb
    rw [Array.getElem?_modify, if_pos rfl, hb]
    rfl
  refine ⟨⟨_, w.freeze ⟨b, cs.length, none⟩ 1, ?_, hK _ (fun i => ?_) ⟨rfl, rfl, rfl, ?_, fun k hk hne => ?_⟩⟩⟩
  · simp [convert, run_underlying Tryd.underlying22, run_underlying Tryd.underlying5, markStringish, hsh]
  · simp [World.cell?, hget]
  · unfold World.freeze
    rw [if_neg (by decide)]
    show _ ≤ (w.heap.modify b _).size
    simp
  · unfold World.freeze
    rw [if_neg (by decide)]
    show (w.heap.modify b _)[k]? = _
    rw [Array.getElem?_modify, if_neg (fun h => hne h.symm)]
end Go.Proofs.YtgmopcbfgcagaaaDoor
