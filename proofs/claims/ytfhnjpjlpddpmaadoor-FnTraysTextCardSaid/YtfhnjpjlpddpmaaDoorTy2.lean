
/- The walks that mark letters and look at marks; letters in trays. -/
import Derived.Test.YtfhnjpjlpddpmaaDoorTy1
import Derived.Deep.RegionWith
namespace Go.Proofs.YtfhnjpjlpddpmaaDoor
open Go.RowKit
set_option linter.unusedVariables false

theorem cell_later {W w2 : World} {a : Addr} {v : Value} (hb : Below W.heap.size W w2) (h : W.cell? a = some v) : w2.cell? a = some v := (hb.cell (World.block_lt_of_cell? W a h)).trans h
theorem own_some {w : World} {B n : Nat} {e : TypeId} {size : Nat} {A : Option Addr} {c : Nat} {cs : List Value} (h : w.ownsRow B e size (.slice A n c) n cs) (hn : 0 < n) : ∃ g, A = some ⟨g, 0, none⟩ := by
  rcases h.2 with ⟨_, h0⟩ | ⟨g, cap, cur, hv, _⟩
  · omega
  · injection hv with hv; exact ⟨g, hv⟩
theorem own_shape {w : World} {B n : Nat} {e : TypeId} {size : Nat} {v : Value} {cs : List Value} (h : w.ownsRow B e size v n cs) : ∃ A c, v = .slice A n c := by
  obtain ⟨A, c, hv, _⟩ := own_form h
  exact ⟨A, c, hv⟩

end Go.Proofs.YtfhnjpjlpddpmaaDoor
