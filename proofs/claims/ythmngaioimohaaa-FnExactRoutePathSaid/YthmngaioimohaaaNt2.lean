
/- The walks that mark rules and look at marks. -/
import Derived.Test.YthmngaioimohaaaNt1
import Derived.Deep.RegionWith
namespace Go.Proofs.Ythmngaioimohaaa
open Go.RowKit
set_option linter.unusedVariables false

theorem markText_int (x : Int) (k : Nat) (hx : x = (k : Int)) (w : World) (hk : k ≤ 1099511627776) :
    Calls Try.prog 39 #[.int .i64 x] w fun e w' => e = .returned (.string (mt k)) ∧ Below w.heap.size w w' := by
  subst hx; exact markText_any k w hk

theorem cell_later {W w2 : World} {a : Addr} {v : Value} (hb : Below W.heap.size W w2) (h : W.cell? a = some v) : w2.cell? a = some v := (hb.cell (World.block_lt_of_cell? W a h)).trans h
theorem own_some {w : World} {B n : Nat} {e : TypeId} {size : Nat} {A : Option Addr} {c : Nat} {cs : List Value} (h : w.ownsRow B e size (.slice A n c) n cs) (hn : 0 < n) : ∃ g, A = some ⟨g, 0, none⟩ := by
  rcases h.2 with ⟨_, h0⟩ | ⟨g, cap, cur, hv, _⟩
  · omega
  · injection hv with hv; exact ⟨g, hv⟩
theorem own_shape {w : World} {B n : Nat} {e : TypeId} {size : Nat} {v : Value} {cs : List Value} (h : w.ownsRow B e size v n cs) : ∃ A c, v = .slice A n c := by
  obtain ⟨A, c, hv, _⟩ := own_form h
  exact ⟨A, c, hv⟩

set_option maxRecDepth 100000 in
set_option maxHeartbeats 800000 in
theorem markR (v : Value) (B : Nat) (xs : List Rul) (x0 : Int) (k0 : Nat) (hx0 : x0 = (k0 : Int)) (w : World) (h : w.ownsRow B 50 2 v xs.length (rcs xs)) (hn : xs.length ≤ 1048576) (h1 : k0 ≤ 1099511627) :
    Calls Try.prog 40 #[v, .int .i64 x0] w fun e w' => e = .returned (.int .i64 ((k0 : Int) + 2 * (xs.length : Int))) ∧ w'.ownsRow B 50 2 v xs.length (rcs (mkR k0 xs.length)) ∧ w.grownBy w' v.ownBlock := by
  subst hx0
  obtain ⟨A, c, rfl⟩ := own_shape h
  have H0 : Hid (∃ ys, Filled ys (mkR k0 xs.length) 0 ∧ w.ownsRow B 50 2 (.slice A xs.length c) xs.length (rcs ys)) := ⟨xs, ⟨by simp [mkR], rfl⟩, h⟩
  clear h
  go_enter Try.func40, Try.ntmps40
  go_wp2_with fail
  go_loopw [1, 5] (fun kk i wr => ∃ k : Nat, k ≤ xs.length ∧ i = .int .i64 k ∧ kk = .int .i64 ((k0 : Int) + 2 * (k : Int)) ∧ w.grownBy wr (Value.slice A xs.length c).ownBlock ∧
      Hid (∃ ys, Filled ys (mkR k0 xs.length) k ∧ wr.ownsRow B 50 2 (.slice A xs.length c) xs.length (rcs ys))) (fun _ i _ => xs.length - (intOf i).toNat)
  case atStart => exact ⟨0, Nat.zero_le _, rfl, by simp, World.grownBy.refl _ _, H0⟩
  case round =>
    obtain ⟨k, hk, rfl, rfl, hgr, hys⟩ := hrel
    obtain ⟨ys, hf, hown⟩ := hys.out
    clear hys H0
    by_cases hlt : k < xs.length
    · obtain ⟨g, rfl⟩ := own_some hown (by omega)
      have hyk : k < ys.length := by rw [hf.len, mkR_length]; exact hlt
      obtain ⟨hg0, hg1⟩ := cs2_get (f := rtf) (List.getElem?_eq_getElem hyk)
      have Hown := Lib.hid hown
      have Hg0 := Lib.hid hg0
      have Hg1 := Lib.hid hg1
      have Hf := Lib.hid hf
      have Hgr := Lib.hid hgr
      clear hown hf hgr hg0 hg1
      go_wp2_with fail
      refine (markText_int _ (k0 + 2 * k) (by omega) _ (by omega)).mono ?_
      rintro e w1 ⟨rfl, hb1⟩
      have hown1 := own_below Hown.out hb1
      have hc2 : w1.cell? ⟨g, k * 2, none⟩ = some (.string ys[k].1) := (hown1.cellAt _ (by omega)).trans Hg0.out
      have hfz : w1.frozen? ⟨g, k * 2, none⟩ = false := hown1.frozenAt _
      have hst1 := hown1.stored (k * 2) (.string (mt (k0 + 2 * k)))
      have Hgr1 := Lib.hid ((Hgr.out.trans ⟨hb1.os, hb1.tape, hb1.output, hb1.size, fun j hj _ => hb1.block j hj⟩).trans (by simpa [Value.ownBlock] using hst1.2))
      have Hst1 := Lib.hid hst1.1
      clear hst1 hown1 hb1 Hgr Hown
      go_wp2_with fail
      refine (markText_int _ (k0 + 2 * k + 1) (by omega) _ (by omega)).mono ?_
      rintro e w2 ⟨rfl, hb2⟩
      have hown2 := own_below Hst1.out hb2
      have hl2 : ((rcs ys).set (k * 2) (.string (mt (k0 + 2 * k))))[k * 2 + 1]? = some (.string ys[k].2) := by rw [List.getElem?_set_ne (by omega)]; exact Hg1.out
      have hc3 : w2.cell? ⟨g, k * 2 + 1, none⟩ = some (.string ys[k].2) := (hown2.cellAt _ (by omega)).trans hl2
      have hfz3 : w2.frozen? ⟨g, k * 2 + 1, none⟩ = false := hown2.frozenAt _
      have hst2 := hown2.stored (k * 2 + 1) (.string (mt (k0 + 2 * k + 1)))
      have hset := cs2_set (f := rtf) ys k (mt (k0 + 2 * k), mt (k0 + 2 * k + 1))
      simp only [rtf] at hset
      have Hown3 : Hid ((w2.setCell ⟨g, k * 2 + 1, none⟩ (.string (mt (k0 + 2 * k + 1)))).ownsRow B 50 2 (.slice (some ⟨g, 0, none⟩) xs.length c) xs.length (rcs (ys.set k (mt (k0 + 2 * k), mt (k0 + 2 * k + 1))))) := Lib.hid (by
        have e1 : rcs (ys.set k (mt (k0 + 2 * k), mt (k0 + 2 * k + 1))) = cs2 rtf (ys.set k (mt (k0 + 2 * k), mt (k0 + 2 * k + 1))) := rfl
        rw [e1, ← hset]; exact hst2.1)
      have Hgr3 := Lib.hid ((Hgr1.out.trans ⟨hb2.os, hb2.tape, hb2.output, hb2.size, fun j hj _ => hb2.block j hj⟩).trans (by simpa [Value.ownBlock] using hst2.2))
      clear hst2 hset hown2 hl2 hb2 Hgr1
      go_wp2_with fail
      go_roundw
      case rel => exact ⟨k + 1, by omega, by go_num, by go_num, Hgr3.out, ⟨_, Hf.out.step (mkR_get hlt), Hown3.out⟩⟩
      case measure => simp [intOf]; omega
    · have hk' : k = xs.length := by omega
      subst hk'
      have hd := filled_done' hf (mkR_length _ _)
      subst hd
      go_wp2_with fail
      go_ret
      exact ⟨rfl, hown, hgr⟩

end Go.Proofs.Ythmngaioimohaaa
