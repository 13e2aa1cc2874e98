
/- The walks of FillByPrefix, FillTrays, RepackTrays. -/
import Derived.Test.YtaadjjadpacclaaTy9
namespace Go.Proofs.Ytaadjjadpacclaa
open Go.RowKit
set_option linter.unusedVariables false

set_option maxRecDepth 100000 in
set_option maxHeartbeats 1600000 in
theorem own_copy (v : Value) (xss : List (List Ltr)) (w : World) (h : LtS w v xss) (hn : xss.length ≤ 1000) (he : ∀ t ∈ xss, t.length ≤ 1000) :
    Calls Try.prog 25 #[v] w fun e w' => ∃ u, e = .returned u ∧ OLL w' w.heap.size w'.heap.size u xss ∧ Below w.heap.size w w' := by
  obtain ⟨us, ⟨A, c, rfl, hA, hc1, hc2⟩, hus⟩ := h
  unfold maxLen at hc2
  have HA := Lib.hid hA
  have Hus := Lib.hid hus
  have Hul := Lib.hid hus.len
  have He := Lib.hid he
  have hul := hus.len
  have hn2 : us.length ≤ 1000 := by omega
  clear hA hus hul he hn
  have hst : Hid ((w.alloc (.cells #[] 23)).ownsRow w.heap.size 23 1 (.slice (some ⟨w.heap.size, 0, none⟩) 0 0) 0 []) := Lib.hid (World.ownsRow_lit w #[] 0 (Nat.le_refl _) (Nat.zero_le _) rfl)
  have hb0 : Hid (Below w.heap.size w (w.alloc (.cells #[] 23))) := Lib.hid ((Below.refl _ _).alloc (Nat.le_refl _) _)
  go_enter Try.func25, Try.ntmps25
  go_wp2_with fail
  go_loopw [3, 9] (fun o i wr => ∃ (k : Nat) (os : List Value) (u0 : Value), k ≤ us.length ∧ i = .int .i64 k ∧ u0 = o ∧ Hid (Below w.heap.size w wr) ∧ Hid (wr.ownsRow w.heap.size 23 1 u0 k os ∧ RowsL wr w.heap.size wr.heap.size os (xss.take k))) (fun _ i _ => us.length - (intOf i).toNat)
  case atStart => exact ⟨0, [], _, Nat.zero_le _, rfl, rfl, hb0, Lib.hid ⟨hst.out, Rows.nil⟩⟩
  case round =>
    obtain ⟨k, os, u0, hk, rfl, rfl, Hb, Hr⟩ := hrel
    clear hst hb0
    by_cases hkl : k < us.length
    · obtain ⟨p, x, hp, hx, hpx⟩ := Hus.out.at_ (k := k) (by have := Hul.out; omega)
      obtain ⟨ad, rfl, hcA⟩ := (HA.out.below Hb.out) k _ hp
      have hxl := He.out x (List.mem_of_getElem? hx)
      have hpb := hpx.below Hb.out
      obtain ⟨PA, pc, rfl, hpr, hpc1, hpc2⟩ := hpb
      have Hx := Lib.hid hx
      have hb1 : Below wr.heap.size wr (wr.alloc (.cells #[] 31)) := (Below.refl _ _).alloc (Nat.le_refl _) _
      have Hb1 := Lib.hid hb1
      have Hpr := Lib.hid (hpr.below hb1)
      have Hl0 := Lib.hid (own_lit0 wr).row
      clear hx hp hpx hpr hb1
      go_wp2_with (first | (at_builtin; refine wpList_append_rd rfl (.tmp 14) (.tmp 15) 23 rfl ltr_elem (base := wr.heap.size) (.slice (some ⟨wr.heap.size, 0, none⟩) 0 0) 0 (lcs []) rfl Hl0.out PA x.length pc (lcs x) rfl (cs2_length x) Hpr.out (lcs_oneCell x) (by unfold maxLen; omega) (by omega) (by simp) ?_; intro v5 w5 hown5 hg5 hm5; rw [Nat.zero_add, show lcs [] ++ lcs x = lcs x from rfl] at hown5; have Hb5 : Hid (Below wr.heap.size wr w5) := Lib.hid (Hb1.out.grown hg5 (by simp) (fun g e => by cases e; exact Nat.le_refl _)); obtain ⟨C5, cp5, rfl, _, _, _, _⟩ := own_form hown5; have Hown5 := Lib.hid hown5; have Hb6 := Lib.hid (Hb5.out.alloc Hb5.out.size (.cells #[.slice C5 x.length cp5] 23)); have Hn6 := Lib.hid (rd_new w5 [.slice C5 x.length cp5] 23)) | (at_builtin; refine wpList_append_rd rfl (.tmp 13) (.tmp 17) 26 rfl trays_elem (base := w.heap.size) u0 k os rfl (own_below Hr.out.1 Hb6.out) (some ⟨w5.heap.size, 0, none⟩) 1 1 [.slice C5 x.length cp5] rfl rfl Hn6.out (by intro u hu; simp at hu; subst hu; rfl) (by unfold maxLen; omega) (by omega) (Nat.le_trans Hb.out.size Hb6.out.size) ?_; intro v7 w7 hown7 hg7 hm7))
      have hO6 : Own (w5.alloc (.cells #[.slice C5 x.length cp5] 23)) wr.heap.size (w5.alloc (.cells #[.slice C5 x.length cp5] 23)).heap.size 31 2 (.slice C5 x.length cp5) x.length (lcs x) := ((own_of Hown5.out).below ((Below.refl _ _).alloc (Nat.le_refl _) _)).wide (Nat.le_refl _) (by simp)
      have HN := Lib.hid (tray_new (ys := x) Hb.out.size Hr.out.1 Hr.out.2 Hb6.out hO6 hown7 hg7)
      have HB7 : Hid (Below w.heap.size w w7) := Lib.hid ((below_step Hb.out Hb.out.size Hb6.out).grown hg7 (Nat.le_trans Hb.out.size Hb6.out.size) (fun g e => ((own_below Hr.out.1 Hb6.out).lt g e).1))
      clear hO6 hown7 hg7 hm7
      go_roundw
      case rel => exact ⟨k + 1, _, _, by omega, by go_num, rfl, HB7, Lib.hid ⟨HN.out.1, by rw [take_snoc Hx.out]; exact HN.out.2⟩⟩
      case measure => simp [intOf]; omega
    · have hk' : k = us.length := by omega
      subst hk'
      have hr := Hr.out
      rw [List.take_of_length_le (by have := Hul.out; omega)] at hr
      have hol : os.length = us.length := by rw [hr.2.len]; exact Hul.out.symm
      have Hr2 := Lib.hid hr
      have Hol := Lib.hid hol
      clear Hr hr hol
      go_wp2_with fail
      go_ret
      exact ⟨_, rfl, ⟨os, by rw [Hol.out]; exact own_of Hr2.out.1, Hr2.out.2⟩, Hb.out⟩

/-- Trays filled by prefix, and whether. -/
def fok (xs : List Ltr) (size d : Int) : Bool := bv xs && (inB size 1 20 && inB d 0 7)
def fbp (xs : List Ltr) (size d : Int) : List (List Ltr) := if fok xs size d then fillT size.toNat d.toNat xs else []
theorem fbp_no {xs : List Ltr} {size d : Int} (h : fok xs size d = false) : fbp xs size d = [] := by simp [fbp, h]
theorem fok_parts {xs : List Ltr} {size d : Int} (h : fok xs size d = true) : bv xs = true ∧ (1 ≤ size ∧ size ≤ 20) ∧ (0 ≤ d ∧ d ≤ 7) := by
  simp only [fok, Bool.and_eq_true, inB_true] at h
  exact h
theorem fbp_yes {xs : List Ltr} {size d : Nat} (h : fok xs size d = true) : fbp xs size d = fillT size d xs := by simp [fbp, h]
theorem fok_bv {xs : List Ltr} {size d : Int} (h : bv xs = false) : fok xs size d = false := by simp [fok, h]
theorem fok_size {xs : List Ltr} {size d : Int} (h : inB size 1 20 = false) : fok xs size d = false := by simp [fok, h]
theorem fok_d {xs : List Ltr} {size d : Int} (h : inB d 0 7 = false) : fok xs size d = false := by simp [fok, h]
theorem fok_mk {xs : List Ltr} {size d : Int} (h : bv xs = true) (h1 : inB size 1 20 = true) (h2 : inB d 0 7 = true) : fok xs size d = true := by simp [fok, h, h1, h2]
theorem fbp_small {xs : List Ltr} {size d : Int} : (fbp xs size d).length ≤ 60 ∧ (∀ t ∈ fbp xs size d, t.length ≤ 60) ∧ (fbp xs size d).flatten.length ≤ 60 := by
  cases h : fok xs size d with
  | false => rw [fbp_no h]; simp
  | true =>
    obtain ⟨h1, h2, h3⟩ := fok_parts h
    have hl := (bv_parts h1).1
    have h4 := (fill_all (size := size.toNat) (d := d.toNat) (by omega) xs)
    have h5 := fill_count (size := size.toNat) (d := d.toNat) (b := xs) (k := xs.length) (by omega) (Nat.le_refl _)
    rw [List.take_length] at h5
    have e : fbp xs size d = fillT size.toNat d.toNat xs := by simp [fbp, h]
    rw [e]
    refine ⟨by omega, fun t ht => ?_, by rw [h4.2]; exact hl⟩
    have := (h4.1.one t ht).2
    omega
theorem oll_nil (w : World) (lo hi : Nat) : OLL w lo hi (.slice none 0 0) [] := ⟨[], own_nil _ _ _ _ _, Rows.nil⟩
theorem oll_lit0 (w : World) : OLL (w.alloc (.cells #[] 23)) w.heap.size (w.alloc (.cells #[] 23)).heap.size (.slice (some ⟨w.heap.size, 0, none⟩) 0 0) [] := ⟨[], own_of (World.ownsRow_lit w #[] 0 (Nat.le_refl _) (Nat.zero_le _) rfl), Rows.nil⟩
theorem OLL.wide {w : World} {lo hi lo' hi' : Nat} {v : Value} {xss : List (List Ltr)} (h : OLL w lo hi v xss) (h1 : lo' ≤ lo) (h2 : hi ≤ hi') : OLL w lo' hi' v xss := by
  obtain ⟨us, a, b⟩ := h
  exact ⟨us, a.wide h1 h2, Rows.wide b h1 h2⟩
theorem code7 {xs : List Ltr} (h : bv xs = true) : ∀ x ∈ xs, x.2.size = 7 := fun x hx => codeB_size ((bv_parts h).2.1 x hx).1

end Go.Proofs.Ytaadjjadpacclaa
