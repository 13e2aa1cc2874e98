
/- The walk of impl.FaultyPrefixes. -/
import Derived.Test.YtkfbgoahppfelaaNtP5
import Derived.Test.YtkfbgoahppfelaaNt10
namespace Go.Proofs.Ytkfbgoahppfelaa
open Go.RowKit
set_option linter.unusedVariables false

theorem flat_le {α : Type} {m : Nat} : ∀ {L : List (List α)}, (∀ l ∈ L, l.length ≤ m) → L.flatten.length ≤ L.length * m
  | [], _ => by simp
  | l :: L, h => by
    have h1 := h l (by simp)
    have h2 := flat_le (L := L) fun x hx => h x (by simp [hx])
    rw [List.flatten_cons, List.length_append, List.length_cons, Nat.add_mul]
    omega
theorem faultP_len (good op : ByteArray → Bool) : ∀ (f : Nat) (p : ByteArray), (faultP good op f p).length ≤ 10 ^ f
  | 0, p => by rw [faultP]; split <;> simp
  | f + 1, p => by
    have h10 : 1 ≤ 10 ^ (f + 1) := Nat.one_le_pow _ _ (by omega)
    rw [faultP]
    split
    · split <;> simp <;> omega
    · split
      · simp; omega
      · have := flat_le (m := 10 ^ f) (L := (List.range 10).map fun d => faultP good op f (p ++ dgt d)) fun l hl => by
          obtain ⟨d, _, rfl⟩ := List.mem_map.1 hl
          exact faultP_len good op f _
        rw [List.length_map, List.length_range] at this
        rw [Nat.pow_succ]; omega
section
variable (good op : ByteArray → Bool) (f : Nat) (p : ByteArray)
def fpart (d : Nat) : List ByteArray := faultP good op f (p ++ dgt d)
def fparts (k : Nat) : List ByteArray := ((List.range k).map (fpart good op f p)).flatten
def fcnt (k : Nat) : Nat := ((List.range k).filter fun d => decide (fpart good op f p d = [p ++ dgt d])).length
end
section
variable {good op : ByteArray → Bool} {f : Nat} {p : ByteArray}
theorem fparts_snoc (k : Nat) : fparts good op f p (k + 1) = fparts good op f p k ++ fpart good op f p k := by
  rw [fparts, List.range_succ, List.map_append, List.flatten_append]; simp [fparts]
theorem fcnt_snoc (k : Nat) : fcnt good op f p (k + 1) = fcnt good op f p k + if fpart good op f p k = [p ++ dgt k] then 1 else 0 := by
  rw [fcnt, List.range_succ, List.filter_append, List.length_append]
  congr 1
  by_cases h : fpart good op f p k = [p ++ dgt k] <;> simp [h]
theorem fcnt_le (k : Nat) : fcnt good op f p k ≤ k := by
  have := List.length_filter_le (fun d => decide (fpart good op f p d = [p ++ dgt d])) (List.range k)
  simpa [fcnt] using this
theorem fcnt_all {k : Nat} : fcnt good op f p k = k ↔ ∀ d ∈ List.range k, fpart good op f p d = [p ++ dgt d] := by
  have h := List.length_filter_eq_length_iff (p := fun d => decide (fpart good op f p d = [p ++ dgt d])) (l := List.range k)
  rw [List.length_range] at h
  rw [fcnt, h]
  simp
theorem fparts_len {k : Nat} (hk : k ≤ 10) (hf : f ≤ 6) : (fparts good op f p k).length ≤ 10000000 := by
  have := flat_le (m := 10 ^ f) (L := (List.range k).map (fpart good op f p)) fun l hl => by
    obtain ⟨d, _, rfl⟩ := List.mem_map.1 hl
    exact faultP_len good op f _
  rw [List.length_map, List.length_range] at this
  have h6 : 10 ^ f ≤ 10 ^ 6 := Nat.pow_le_pow_right (by omega) hf
  have : (fparts good op f p k).length ≤ 10 * 10 ^ 6 := Nat.le_trans this (Nat.mul_le_mul hk h6)
  omega
theorem fault_leaf (h : op p = false ∨ f = 0) : faultP good op f p = if good (firstW p) = true then [] else [p] := by
  cases f with
  | zero => rfl
  | succ f =>
    rcases h with h | h
    · rw [faultP, if_pos h]
    · omega
theorem fault_deep (h : op p = true) : faultP good op (f + 1) p = if fcnt good op f p 10 = 10 then [p] else fparts good op f p 10 := by
  rw [faultP, if_neg (by rw [h]; simp)]
  by_cases hc : fcnt good op f p 10 = 10
  · rw [if_pos hc]; exact if_pos (fcnt_all.1 hc)
  · rw [if_neg hc]; exact if_neg (fun h => hc (fcnt_all.2 h))
end
theorem any_snoc {α : Type} {l : List α} {g : α → Bool} {k : Nat} {x : α} (h : l[k]? = some x) : (l.take (k + 1)).any g = ((l.take k).any g || g x) := by
  rw [take_snoc h, List.any_append]; simp

set_option maxRecDepth 100000 in
set_option maxHeartbeats 3200000 in
theorem impl_faulty (v : Value) (net : List Off) (i : Nat) (hn : Nv net) (hs : SzO net) (hi : i < net.length) : ∀ (f : Nat) (p : ByteArray) (w : World), InO w v net → preB p = true → p.size + f = 7 →
    Calls Try.prog 74 #[v, .int .i64 i, .string p] w fun e w' => ∃ u, e = .returned u ∧ OS w' w.heap.size w'.heap.size u (faultP (comes net i) (openN net) f p) ∧ Below w.heap.size w w' := by
  intro f
  induction f with
  | zero =>
    intro p w hI hpre hps
    have hpl : p.size ≤ maxLen := by unfold maxLen; omega
    have hp7 : p.size ≤ 7 := by omega
    have HI := Lib.hid hI
    have HN := Lib.hid hn
    have Hs := Lib.hid hs
    have hn8 : net.length ≤ 8 := hn.len.2
    have Hlf : Hid (faultP (comes net i) (openN net) 0 p = if comes net i (firstW p) = true then [] else [p]) := Lib.hid rfl
    have Hop : Hid (openN net p = false) := Lib.hid (by
      cases ho : openN net p with
      | false => rfl
      | true =>
        obtain ⟨o, hom, hlo⟩ := openN_true ho
        have := longer_size (rv_parts (hn.rules o hom)) hlo
        omega)
    obtain ⟨VA, vc, rfl, _⟩ := InO.form hI
    clear hI hn hs
    go_enter Try.func74, Try.ntmps74
    go_wp2_with fail
    go_loopw [7, 19] (fun l i wr => ∃ k : Nat, k ≤ net.length ∧ i = .int .i64 k ∧ l = .bool ((net.take k).any fun o => longer o.2 p) ∧ Hid (Below w.heap.size w wr)) (fun _ i _ => net.length - (intOf i).toNat)
    case atStart => exact ⟨0, Nat.zero_le _, rfl, rfl, Lib.hid (Below.refl _ _)⟩
    case round =>
      obtain ⟨k, hk, rfl, rfl, Hb⟩ := hrel
      by_cases hkl : k < net.length
      · obtain ⟨oa, o, ov, hoa, ho, hco, hcv, hrt⟩ := (HI.out.below Hb.out).at_ hkl
        subst hoa
        have hoz := (Hs.out o (List.mem_of_getElem? ho)).2
        have Hsn := Lib.hid (any_snoc (g := fun o : Off => longer o.2 p) ho)
        obtain ⟨RA, rc, rfl, hRA, hrc1, hrc2⟩ := hrt
        have hba : Below wr.heap.size wr (wr.alloc (.cells #[.string o.1, .slice RA o.2.length rc] 56)) := (Below.refl _ _).alloc (Nat.le_refl _) _
        have HC := Lib.hid (impl_longer (.slice RA o.2.length rc) o.2 p _ (Sl.below (show Sl wr (.slice RA o.2.length rc) o.2.length (rcs o.2) from ⟨RA, rc, rfl, hRA, hrc1, hrc2⟩) hba) hoz hpl)
        have Hba := Lib.hid (below_trans' Hb.out hba)
        clear ho hoz hRA hba
        obtain ⟨a, ha⟩ : ∃ a, a = (net.take k).any fun o => longer o.2 p := ⟨_, rfl⟩
        rw [← ha]
        have Ha := Lib.hid ha
        clear ha
        cases a with
        | true =>
          go_wp2_with fail
          go_roundw
          case rel => exact ⟨k + 1, by omega, by go_num, by rw [Hsn.out, ← Ha.out]; rfl, Hba⟩
          case measure => simp [intOf]; omega
        | false =>
          obtain ⟨b, hb⟩ : ∃ b, b = longer o.2 p := ⟨_, rfl⟩
          rw [← hb] at HC
          have HB := Lib.hid hb
          clear hb
          go_wp2_with fail
          refine HC.out.mono ?_
          rintro e w2 ⟨rfl, hb2⟩
          have Hb2 := Lib.hid (below_trans' Hba.out hb2)
          clear hb2
          go_wp2_with fail
          go_roundw
          case rel => exact ⟨k + 1, by omega, by go_num, by rw [Hsn.out, ← Ha.out, ← HB.out]; first | rfl | simp, Hb2⟩
          case measure => simp [intOf]; omega
      · have hk' : k = net.length := by omega
        subst hk'
        have hop : (net.take net.length).any (fun o => longer o.2 p) = openN net p := by rw [List.take_length]; rfl
        rw [hop]
        clear hop
        rw [Hop.out]
        have H1 := Lib.hid (first_any p wr hp7)
        go_wp2_with fail
        refine H1.out.mono ?_
        rintro e w2 ⟨rfl, hw2⟩
        subst hw2
        have hfs : (firstW p).size ≤ maxLen := by have := (codeB_parts (firstW_code hpre)).1; unfold maxLen; omega
        have H2 := Lib.hid (impl_route _ net i (firstW p) wr (HI.out.below Hb.out) Hs.out HN.out hi hfs)
        clear H1 hfs
        go_wp2_with fail
        refine H2.out.mono ?_
        rintro e w3 ⟨u, rfl, _, hb3⟩
        have Hb3 := Lib.hid (below_trans' Hb.out hb3)
        clear H2 hb3
        by_cases hE : (pathN net (firstW p) i).2 = 0
        · have HE : Hid (faultP (comes net i) (openN net) 0 p = []) := Lib.hid (by rw [Hlf.out, if_pos (by rw [comes]; exact decide_eq_true hE)])
          have e0 : ((pathN net (firstW p) i).2 == 0) = true := by simp [hE]
          clear hE
          generalize (pathN net (firstW p) i).2 = E at *
          go_wp2_with fail
          go_ret
          refine ⟨_, rfl, ?_, Hb3.out⟩
          rw [HE.out]
          exact own_nil _ _ _ _ _
        · have HE : Hid (faultP (comes net i) (openN net) 0 p = [p]) := Lib.hid (by rw [Hlf.out, if_neg (by rw [comes, decide_eq_false hE]; simp)])
          have e0 : ((pathN net (firstW p) i).2 == 0) = false := by simp [hE]
          clear hE
          generalize (pathN net (firstW p) i).2 = E at *
          go_wp2_with fail
          go_ret
          refine ⟨_, rfl, ?_, Hb3.out.alloc Hb3.out.size _⟩
          rw [HE.out]
          exact own_of (World.ownsRow_lit w3 #[.string p] 1 Hb3.out.size (by unfold maxLen; omega) rfl)
  | succ f ih =>
    intro p w hI hpre hps
    have hpl : p.size ≤ maxLen := by unfold maxLen; omega
    have hp7 : p.size ≤ 7 := by omega
    have hp6 : p.size < 7 := by omega
    have hf6 : f ≤ 6 := by omega
    have HI := Lib.hid hI
    have HN := Lib.hid hn
    have Hs := Lib.hid hs
    have Hih := Lib.hid ih
    have hn8 : net.length ≤ 8 := hn.len.2
    obtain ⟨VA, vc, rfl, _⟩ := InO.form hI
    clear hI hn hs ih
    go_enter Try.func74, Try.ntmps74
    go_wp2_with fail
    go_loopw [7, 19] (fun l i wr => ∃ k : Nat, k ≤ net.length ∧ i = .int .i64 k ∧ l = .bool ((net.take k).any fun o => longer o.2 p) ∧ Hid (Below w.heap.size w wr)) (fun _ i _ => net.length - (intOf i).toNat)
    case atStart => exact ⟨0, Nat.zero_le _, rfl, rfl, Lib.hid (Below.refl _ _)⟩
    case round =>
      obtain ⟨k, hk, rfl, rfl, Hb⟩ := hrel
      by_cases hkl : k < net.length
      · obtain ⟨oa, o, ov, hoa, ho, hco, hcv, hrt⟩ := (HI.out.below Hb.out).at_ hkl
        subst hoa
        have hoz := (Hs.out o (List.mem_of_getElem? ho)).2
        have Hsn := Lib.hid (any_snoc (g := fun o : Off => longer o.2 p) ho)
        obtain ⟨RA, rc, rfl, hRA, hrc1, hrc2⟩ := hrt
        have hba : Below wr.heap.size wr (wr.alloc (.cells #[.string o.1, .slice RA o.2.length rc] 56)) := (Below.refl _ _).alloc (Nat.le_refl _) _
        have HC := Lib.hid (impl_longer (.slice RA o.2.length rc) o.2 p _ (Sl.below (show Sl wr (.slice RA o.2.length rc) o.2.length (rcs o.2) from ⟨RA, rc, rfl, hRA, hrc1, hrc2⟩) hba) hoz hpl)
        have Hba := Lib.hid (below_trans' Hb.out hba)
        clear ho hoz hRA hba
        obtain ⟨a, ha⟩ : ∃ a, a = (net.take k).any fun o => longer o.2 p := ⟨_, rfl⟩
        rw [← ha]
        have Ha := Lib.hid ha
        clear ha
        cases a with
        | true =>
          go_wp2_with fail
          go_roundw
          case rel => exact ⟨k + 1, by omega, by go_num, by rw [Hsn.out, ← Ha.out]; rfl, Hba⟩
          case measure => simp [intOf]; omega
        | false =>
          obtain ⟨b, hb⟩ : ∃ b, b = longer o.2 p := ⟨_, rfl⟩
          rw [← hb] at HC
          have HB := Lib.hid hb
          clear hb
          go_wp2_with fail
          refine HC.out.mono ?_
          rintro e w2 ⟨rfl, hb2⟩
          have Hb2 := Lib.hid (below_trans' Hba.out hb2)
          clear hb2
          go_wp2_with fail
          go_roundw
          case rel => exact ⟨k + 1, by omega, by go_num, by rw [Hsn.out, ← Ha.out, ← HB.out]; first | rfl | simp, Hb2⟩
          case measure => simp [intOf]; omega
      · have hk' : k = net.length := by omega
        subst hk'
        have hop : (net.take net.length).any (fun o => longer o.2 p) = openN net p := by rw [List.take_length]; rfl
        rw [hop]
        clear hop
        cases hop : openN net p with
        | false =>
          have Hop := Lib.hid hop
          have Hlf : Hid (faultP (comes net i) (openN net) (f + 1) p = if comes net i (firstW p) = true then [] else [p]) := Lib.hid (fault_leaf (.inl hop))
          rw [← hop]
          clear hop
          rw [Hop.out]
          have H1 := Lib.hid (first_any p wr hp7)
          go_wp2_with fail
          refine H1.out.mono ?_
          rintro e w2 ⟨rfl, hw2⟩
          subst hw2
          have hfs : (firstW p).size ≤ maxLen := by have := (codeB_parts (firstW_code hpre)).1; unfold maxLen; omega
          have H2 := Lib.hid (impl_route _ net i (firstW p) wr (HI.out.below Hb.out) Hs.out HN.out hi hfs)
          clear H1 hfs
          go_wp2_with fail
          refine H2.out.mono ?_
          rintro e w3 ⟨u, rfl, _, hb3⟩
          have Hb3 := Lib.hid (below_trans' Hb.out hb3)
          clear H2 hb3
          by_cases hE : (pathN net (firstW p) i).2 = 0
          · have HE : Hid (faultP (comes net i) (openN net) (f + 1) p = []) := Lib.hid (by rw [Hlf.out, if_pos (by rw [comes]; exact decide_eq_true hE)])
            have e0 : ((pathN net (firstW p) i).2 == 0) = true := by simp [hE]
            clear hE
            generalize (pathN net (firstW p) i).2 = E at *
            go_wp2_with fail
            go_ret
            refine ⟨_, rfl, ?_, Hb3.out⟩
            rw [HE.out]
            exact own_nil _ _ _ _ _
          · have HE : Hid (faultP (comes net i) (openN net) (f + 1) p = [p]) := Lib.hid (by rw [Hlf.out, if_neg (by rw [comes, decide_eq_false hE]; simp)])
            have e0 : ((pathN net (firstW p) i).2 == 0) = false := by simp [hE]
            clear hE
            generalize (pathN net (firstW p) i).2 = E at *
            go_wp2_with fail
            go_ret
            refine ⟨_, rfl, ?_, Hb3.out.alloc Hb3.out.size _⟩
            rw [HE.out]
            exact own_of (World.ownsRow_lit w3 #[.string p] 1 Hb3.out.size (by unfold maxLen; omega) rfl)
        | true =>
          have Hdeep := Lib.hid (fault_deep (good := comes net i) (f := f) hop)
          have H0 : Hid (wr.ownsRow w.heap.size 9 1 (.slice none 0 0) (fparts (comes net i) (openN net) f p 0).length (strs (fparts (comes net i) (openN net) f p 0))) := Lib.hid (World.ownsRow_nil _ _ _ _)
          have Hc0 : Hid (fcnt (comes net i) (openN net) f p 0 = 0) := Lib.hid rfl
          clear hop
          go_wp2_with fail
          go_loopw [12, 13, 45] (fun o cn dv wr => ∃ (d : Nat) (u0 : Value), d ≤ 10 ∧ dv = .int .i64 d ∧ u0 = o ∧ cn = .int .i64 (fcnt (comes net i) (openN net) f p d : Int) ∧ Hid (Below w.heap.size w wr) ∧ Hid (wr.ownsRow w.heap.size 9 1 u0 (fparts (comes net i) (openN net) f p d).length (strs (fparts (comes net i) (openN net) f p d)))) (fun _ _ dv _ => 10 - (intOf dv).toNat)
          case atStart => exact ⟨0, _, by omega, rfl, rfl, by rw [Hc0.out]; rfl, Hb, H0⟩
          case round =>
            obtain ⟨d, u0, hd, rfl, rfl, rfl, Hb, Ho⟩ := hrel
            clear H0
            by_cases hdl : d < 10
            · have hdi : (d : Int) < 10 := by omega
              have H1 := Lib.hid (padded_any d wr (by omega))
              have hfl := fparts_len (good := comes net i) (op := openN net) (p := p) hd hf6
              have hcl := fcnt_le (good := comes net i) (op := openN net) (f := f) (p := p) d
              obtain ⟨C0, cp0, rfl, _, _, _, _⟩ := own_form Ho.out
              go_wp2_with fail
              refine H1.out.mono ?_
              rintro e w3 ⟨rfl, hb3⟩
              have Hb3 := Lib.hid (below_trans' Hb.out hb3)
              have Ho3 := Lib.hid (own_below Ho.out hb3)
              obtain ⟨q, hq⟩ : ∃ q, q = p ++ dgt d := ⟨_, rfl⟩
              have hq' : p ++ dgt d = q := hq.symm
              have hqs : q.size ≤ 7 := by rw [hq, size_app, size_dgt]; omega
              have zn : (dgt d).size = 1 := rfl
              have H2 := Lib.hid (Hih.out q w3 (HI.out.below Hb3.out) (by rw [hq]; exact preB_app hpre hp6 hdl) (by rw [hq, size_app, size_dgt]; omega))
              obtain ⟨L, hL⟩ : ∃ L, L = faultP (comes net i) (openN net) f q := ⟨_, rfl⟩
              rw [← hL] at H2
              have hLl : L.length ≤ 1000000 := by
                have := faultP_len (comes net i) (openN net) f q
                have h6 : 10 ^ f ≤ 10 ^ 6 := Nat.pow_le_pow_right (by omega) hf6
                rw [hL]; omega
              have HL : Hid (L = fpart (comes net i) (openN net) f p d) := Lib.hid (by rw [hL, hq]; rfl)
              have Hcn : Hid (∀ b : Bool, (b = true ↔ L = [q]) → fcnt (comes net i) (openN net) f p (d + 1) = fcnt (comes net i) (openN net) f p d + (if b = true then 1 else 0)) := Lib.hid fun b hb => by
                rw [fcnt_snoc]
                congr 1
                have : (fpart (comes net i) (openN net) f p d = [p ++ dgt d]) ↔ b = true := by rw [hb, hL, hq]; exact Iff.rfl
                by_cases hh : b = true
                · rw [if_pos (this.2 hh), if_pos hh]
                · rw [if_neg (fun h => hh (this.1 h)), if_neg hh]
              clear H1 hb3 Hb Ho hq hL
              go_wp2_with fail
              refine H2.out.mono ?_
              rintro e w4 ⟨x, rfl, hx, hb4⟩
              have Hq := Lib.hid (below_trans' Hb3.out hb4)
              have Hou := Lib.hid (own_below Ho3.out hb4)
              have Hsz4 : Hid (w.heap.size ≤ w4.heap.size) := Lib.hid Hq.out.size
              have hxr : w4.ownsRow w3.heap.size 9 1 x L.length (strs L) := Own.row hx
              obtain ⟨PA, pc, rfl, _, _, hPr, _⟩ := own_form hxr
              have HPr := Lib.hid hPr
              clear H2 hb4 hx Hb3 Ho3 hPr
              by_cases h1 : L.length = 1
              · obtain ⟨y, hy⟩ : ∃ y, L[0]? = some y := ⟨_, List.getElem?_eq_getElem (by omega)⟩
                obtain ⟨g, rfl⟩ := own_some hxr (by omega)
                have hcy : w4.cell? ⟨g, 0, none⟩ = some (.string y) := (hxr.cellAt 0 (by omega)).trans (strs_get hy)
                have hLy : L = [y] := by
                  match L, h1, hy with
                  | [z], _, hy => simp at hy; rw [hy]
                have HLy := Lib.hid hLy
                have e1 : ((L.length : Int) == 1) = true := by simp [h1]
                have hL0 : 0 < L.length := by omega
                by_cases hyq : y = q
                · have e2 := str_same hyq
                  have Hcnt := Lib.hid (Hcn.out true (by rw [hLy, hyq]; simp))
                  clear hyq hLy hy h1 hxr Hcn
                  go_wp2_with (at_builtin; refine wpList_append_rd rfl (.tmp 68) (.tmp 69) 38 rfl str_elem (base := w.heap.size) (.slice C0 (fparts (comes net i) (openN net) f p d).length cp0) (fparts (comes net i) (openN net) f p d).length (strs (fparts (comes net i) (openN net) f p d)) rfl Hou.out (some ⟨g, 0, none⟩) L.length pc (strs L) rfl (by rw [strs_length, Nat.mul_one]) HPr.out (strs_oneCell _) (by unfold maxLen; omega) (by omega) Hsz4.out ?_; intro v5 w5 hown5 hg5 hm5)
                  have Hb5 : Hid (Below w.heap.size w w5) := Lib.hid (Hq.out.grown hg5 Hsz4.out (fun g e => (Hou.out.lt g e).1))
                  have Ho5 : Hid (w5.ownsRow w.heap.size 9 1 v5 (fparts (comes net i) (openN net) f p (d + 1)).length (strs (fparts (comes net i) (openN net) f p (d + 1)))) := Lib.hid (by rw [fparts_snoc, ← HL.out, List.length_append, strs_append]; exact hown5)
                  have hc5 : fcnt (comes net i) (openN net) f p (d + 1) = fcnt (comes net i) (openN net) f p d + 1 := Hcnt.out
                  have Hc5 := Lib.hid hc5
                  clear hown5 hg5 hm5 Hou Hq HPr hc5 Hcnt
                  go_roundw
                  case rel => exact ⟨d + 1, _, by omega, by go_num, rfl, by first | (rw [Hc5.out]; go_num) | (rw [Hc5.out]; simp; done) | (rw [Hc5.out]; done), Hb5, Ho5⟩
                  case measure => simp [intOf]; omega
                · have e2 := str_diff hyq
                  have Hcnt := Lib.hid (Hcn.out false (by rw [hLy]; simp [hyq]))
                  clear hyq hLy hy h1 hxr Hcn
                  go_wp2_with (at_builtin; refine wpList_append_rd rfl (.tmp 68) (.tmp 69) 38 rfl str_elem (base := w.heap.size) (.slice C0 (fparts (comes net i) (openN net) f p d).length cp0) (fparts (comes net i) (openN net) f p d).length (strs (fparts (comes net i) (openN net) f p d)) rfl Hou.out (some ⟨g, 0, none⟩) L.length pc (strs L) rfl (by rw [strs_length, Nat.mul_one]) HPr.out (strs_oneCell _) (by unfold maxLen; omega) (by omega) Hsz4.out ?_; intro v5 w5 hown5 hg5 hm5)
                  have Hb5 : Hid (Below w.heap.size w w5) := Lib.hid (Hq.out.grown hg5 Hsz4.out (fun g e => (Hou.out.lt g e).1))
                  have Ho5 : Hid (w5.ownsRow w.heap.size 9 1 v5 (fparts (comes net i) (openN net) f p (d + 1)).length (strs (fparts (comes net i) (openN net) f p (d + 1)))) := Lib.hid (by rw [fparts_snoc, ← HL.out, List.length_append, strs_append]; exact hown5)
                  have hc5 : fcnt (comes net i) (openN net) f p (d + 1) = fcnt (comes net i) (openN net) f p d + 0 := Hcnt.out
                  have Hc5 := Lib.hid hc5
                  clear hown5 hg5 hm5 Hou Hq HPr hc5 Hcnt
                  go_roundw
                  case rel => exact ⟨d + 1, _, by omega, by go_num, rfl, by first | (rw [Hc5.out]; go_num) | (rw [Hc5.out]; simp; done) | (rw [Hc5.out]; done), Hb5, Ho5⟩
                  case measure => simp [intOf]; omega
              · have e1 : ((L.length : Int) == 1) = false := by simp only [beq_eq_false_iff_ne]; omega
                have Hcnt := Lib.hid (Hcn.out false ⟨(fun h => by cases h), (fun h => by rw [h] at h1; exact absurd rfl h1)⟩)
                clear h1 hxr Hcn
                go_wp2_with (at_builtin; refine wpList_append_rd rfl (.tmp 68) (.tmp 69) 38 rfl str_elem (base := w.heap.size) (.slice C0 (fparts (comes net i) (openN net) f p d).length cp0) (fparts (comes net i) (openN net) f p d).length (strs (fparts (comes net i) (openN net) f p d)) rfl Hou.out (PA) L.length pc (strs L) rfl (by rw [strs_length, Nat.mul_one]) HPr.out (strs_oneCell _) (by unfold maxLen; omega) (by omega) Hsz4.out ?_; intro v5 w5 hown5 hg5 hm5)
                have Hb5 : Hid (Below w.heap.size w w5) := Lib.hid (Hq.out.grown hg5 Hsz4.out (fun g e => (Hou.out.lt g e).1))
                have Ho5 : Hid (w5.ownsRow w.heap.size 9 1 v5 (fparts (comes net i) (openN net) f p (d + 1)).length (strs (fparts (comes net i) (openN net) f p (d + 1)))) := Lib.hid (by rw [fparts_snoc, ← HL.out, List.length_append, strs_append]; exact hown5)
                have hc5 : fcnt (comes net i) (openN net) f p (d + 1) = fcnt (comes net i) (openN net) f p d + 0 := Hcnt.out
                have Hc5 := Lib.hid hc5
                clear hown5 hg5 hm5 Hou Hq HPr hc5 Hcnt
                go_roundw
                case rel => exact ⟨d + 1, _, by omega, by go_num, rfl, by first | (rw [Hc5.out]; go_num) | (rw [Hc5.out]; simp; done) | (rw [Hc5.out]; done), Hb5, Ho5⟩
                case measure => simp [intOf]; omega
            · have hd10 : d = 10 := by omega
              subst hd10
              have hcl := fcnt_le (good := comes net i) (op := openN net) (f := f) (p := p) 10
              by_cases hc : fcnt (comes net i) (openN net) f p 10 = 10
              · have HE : Hid (faultP (comes net i) (openN net) (f + 1) p = [p]) := Lib.hid (by rw [Hdeep.out, if_pos hc])
                have e1 : ((fcnt (comes net i) (openN net) f p 10 : Int) == 10) = true := by simp only [beq_iff_eq]; omega
                clear hc
                go_wp2_with fail
                go_ret
                refine ⟨_, rfl, ?_, Hb.out.alloc Hb.out.size _⟩
                rw [HE.out]
                exact own_of (World.ownsRow_lit wr #[.string p] 1 Hb.out.size (by unfold maxLen; omega) rfl)
              · have HE : Hid (faultP (comes net i) (openN net) (f + 1) p = fparts (comes net i) (openN net) f p 10) := Lib.hid (by rw [Hdeep.out, if_neg hc])
                have e1 : ((fcnt (comes net i) (openN net) f p 10 : Int) == 10) = false := by simp only [beq_eq_false_iff_ne]; omega
                clear hc
                go_wp2_with fail
                go_ret
                refine ⟨_, rfl, ?_, Hb.out⟩
                rw [HE.out]
                exact own_of Ho.out

set_option maxRecDepth 100000 in
set_option maxHeartbeats 1600000 in
theorem impl_faults (v : Value) (net : List Off) (s : ByteArray) (w : World) (h : InO w v net) (hs : SzO net) :
    Calls Try.prog 41 #[v, .string s] w fun e w' => ∃ u, e = .returned u ∧ OS w' w.heap.size w'.heap.size u (faultN net s) ∧ Below w.heap.size w w' := by
  have H := Lib.hid h
  have Hs := Lib.hid hs
  have H1 := Lib.hid (impl_off v net s w h)
  obtain ⟨A, cc, rfl, hc1, hc2⟩ := h.form
  clear hs h
  go_enter Try.func41, Try.ntmps41
  go_wp2_with fail
  refine H1.out.mono ?_
  rintro e w1 ⟨rfl, hb1⟩
  have Hb1 := Lib.hid hb1
  have H2 := Lib.hid (impl_nv _ net w1 (H.out.below hb1) Hs.out)
  clear H1 hb1
  rcases offZ_cases net s with ⟨e4, e5⟩ | ⟨i, r, e4, e5, hr, hrn, hil, _⟩
  · have HE : Hid (faultN net s = []) := Lib.hid (by simp [faultN, e5])
    rw [e4]
    clear e4 e5
    go_wp2_with fail
    refine H2.out.mono ?_
    rintro e w2 ⟨rfl, hb2⟩
    have Hb2 := Lib.hid (below_trans' Hb1.out hb2)
    clear hb2
    cases hnv : nv net with
    | false =>
      clear hnv
      go_wp2_with fail
      go_ret
      exact ⟨_, rfl, by rw [HE.out]; exact own_nil _ _ _ _ _, Hb2.out⟩
    | true =>
      clear hnv
      go_wp2_with fail
      go_ret
      exact ⟨_, rfl, by rw [HE.out]; exact own_nil _ _ _ _ _, Hb2.out⟩
  · rw [e4]
    have He5 := Lib.hid e5
    clear e4 e5 hr hrn
    go_wp2_with fail
    refine H2.out.mono ?_
    rintro e w2 ⟨rfl, hb2⟩
    have Hb2 := Lib.hid (below_trans' Hb1.out hb2)
    clear hb2
    cases hnv : nv net with
    | false =>
      have HE : Hid (faultN net s = []) := Lib.hid (by simp [faultN, He5.out, hnv])
      clear hnv
      go_wp2_with fail
      go_ret
      exact ⟨_, rfl, by rw [HE.out]; exact own_nil _ _ _ _ _, Hb2.out⟩
    | true =>
      have HE : Hid (faultN net s = faultP (comes net i) (openN net) 7 ⟨#[]⟩) := Lib.hid (by simp [faultN, He5.out, hnv]; rfl)
      have H3 := Lib.hid (impl_faulty _ net i (nv_parts hnv) Hs.out hil 7 ⟨#[]⟩ w2 (H.out.below Hb2.out) preB_emp rfl)
      clear hnv H2
      have hi0 : ¬ (i : Int) < 0 := by omega
      go_wp2_with fail
      refine H3.out.mono ?_
      rintro e w3 ⟨u, rfl, hu, hb3⟩
      go_wp2_with fail
      go_ret
      exact ⟨_, rfl, by rw [HE.out]; exact hu.wide Hb2.out.size (Nat.le_refl _), below_trans' Hb2.out hb3⟩

end Go.Proofs.Ytkfbgoahppfelaa
