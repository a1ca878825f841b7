import Derived.Test.YtllicaibgjjidaaDoorNtL
import Derived.Test.YtllicaibgjjidaaDoorNtTab
import Derived.Test.YtllicaibgjjidaaDoorTie
import Derived.Test.YtllicaibgjjidaaDoorCards
namespace Go.Proofs.YtllicaibgjjidaaDoor.Knd
open Go.ChangeShapes Go.WideShapes Go.ChangeAt Go.WideMaps Go.WideElems Go.RowKit Go.Proofs.YtllicaibgjjidaaDoor

theorem toList_ne {x y : ByteArray} (h : x ≠ y) : ¬ x.toList = y.toList := fun e => h (by
  rw [ByteArray.toList_eq, ByteArray.toList_eq] at e
  cases x; cases y; simp at e; rw [e])
theorem nm_ne {k o : Int} (k0 : 0 ≤ k) (o0 : 0 ≤ o) (hk : isK k = true) (h : nmI k = nmI o) : k = o := by
  have h1 := nmI_empty k k0
  have h2 := nmI_empty o o0
  rw [h] at h1
  have ho : isK o = true := by
    have : (!(isK k)) = !(isK o) := h1.symm.trans h2
    rw [hk] at this
    simpa using this.symm
  have hk38 : k < 38 := by unfold isK at hk; simp at hk; omega
  have ho38 : o < 38 := by unfold isK at ho; simp at ho; omega
  unfold nmI at h
  rw [if_pos hk38, if_pos ho38] at h
  have h3 : nmL.getD k.toNat [] = nmL.getD o.toNat [] := by
    have := congrArg (fun b : ByteArray => b.data.toList) h
    simpa [nm] using this
  have := nm_inj k.toNat (by omega) o.toNat (by omega) (by rw [Int.toNat_of_nonneg k0]; exact hk) h3
  omega

set_option maxHeartbeats 2000000 in
set_option linter.unusedSimpArgs false in
theorem walk_same (k : Int) (k0 : 0 ≤ k) (k1 : k ≤ 255) (w : World) (hT : Tab w) :
    Calls Tryd.prog 3 #[.int .u8 k, .int .u8 k] w fun e w' => e = .returned (.bool true) ∧ Frm w w' fun _ => False := by
  have e1 := nmI_empty k k0
  have O0 := Lib.hid (Own.first Nt.P w 54)
  have HT := Lib.hid hT
  have hae : addE [] ⟨0, 0, k, 0, 0, 0, 0⟩ = if isK k then 0 else 1 := by unfold addE; rw [takes_nil]
  have C := add_any _ _ _ _ [] ⟨0, 0, k, 0, 0, 0, 0⟩ k0 k1 _ (HT.out.frm O0.out.frm id) O0.out.lst O0.out.le few0
  by_cases a1 : 1 ≤ k <;> by_cases a2 : k ≤ 5 <;> by_cases a3 : 16 ≤ k <;> by_cases a4 : k ≤ 37
  all_goals first | omega | skip
  all_goals
    have hK : isK k = ((decide (1 ≤ k) && decide (k ≤ 5)) || (decide (16 ≤ k) && decide (k ≤ 37))) := rfl
    simp only [a1, a2, a3, a4, decide_true, decide_false, Bool.and_true, Bool.and_false, Bool.or_true, Bool.or_false, Bool.true_and, Bool.false_and, Bool.true_or] at hK
    rw [hK] at e1 hae
    rw [hae] at C
    have C' := Lib.hid C
    clear hK hae hT C
    simp only [Bool.not_true, Bool.not_false] at e1
    go_enter Tryd.func3, Tryd.ntmps3
    go_wp2_with (first
      | (go_at_call 8; refine (new_any w).mono ?_; rintro e w' ⟨rfl, rfl⟩)
      | (go_at_call 9; refine C'.out.mono ?_; rintro e w1 ⟨rfl, ha⟩; obtain ⟨A1, c1, O1⟩ := O0.out.added ha; replace O1 := Lib.hid O1; clear ha C')
      | (go_at_call 7; refine (name_any k k0 k1 w HT.out).mono ?_; rintro e w' ⟨rfl, rfl⟩)
      | (go_at_call 7; refine (name_any k k0 k1 _ (HT.out.frm O1.out.frm id)).mono ?_; rintro e w' ⟨rfl, rfl⟩)
      | (go_at_call 10; refine (lot_any k _).mono ?_; rintro e w' ⟨rfl, rfl⟩)
      | (go_at_call 11; refine (lives_any _ (HT.out.frm O1.out.frm id)).mono ?_; rintro e w2 ⟨rfl, hl⟩))
    go_ret
    exact ⟨by first | (simp; done) | (simp; omega) | (simp [*]; done) | (simp [*]; omega), O1.out.frm.then_ hl⟩
set_option maxHeartbeats 2000000 in
set_option linter.unusedSimpArgs false in
theorem walk_other (k : Int) (o : Int) (k0 : 0 ≤ k) (k1 : k ≤ 255) (o0 : 0 ≤ o) (o1 : o ≤ 255) (hko : k ≠ o) (w : World) (hT : Tab w) :
    Calls Tryd.prog 3 #[.int .u8 k, .int .u8 o] w fun e w' => e = .returned (.bool true) ∧ Frm w w' fun _ => False := by
  have e1 := nmI_empty k k0
  have hne : isK k = true → ¬ (nmI k).toList = (nmI o).toList := fun hk => toList_ne fun h => hko (nm_ne k0 o0 hk h)
  have O0 := Lib.hid (Own.first Nt.P w 54)
  have HT := Lib.hid hT
  have hae : addE [] ⟨0, 0, k, 0, 0, 0, 0⟩ = if isK k then 0 else 1 := by unfold addE; rw [takes_nil]
  have C := add_any _ _ _ _ [] ⟨0, 0, k, 0, 0, 0, 0⟩ k0 k1 _ (HT.out.frm O0.out.frm id) O0.out.lst O0.out.le few0
  by_cases a1 : 1 ≤ k <;> by_cases a2 : k ≤ 5 <;> by_cases a3 : 16 ≤ k <;> by_cases a4 : k ≤ 37
  all_goals first | omega | skip
  all_goals
    have hK : isK k = ((decide (1 ≤ k) && decide (k ≤ 5)) || (decide (16 ≤ k) && decide (k ≤ 37))) := rfl
    simp only [a1, a2, a3, a4, decide_true, decide_false, Bool.and_true, Bool.and_false, Bool.or_true, Bool.or_false, Bool.true_and, Bool.false_and, Bool.true_or] at hK
    rw [hK] at e1 hae hne
    rw [hae] at C
    have C' := Lib.hid C
    clear hK hae hT C
    simp only [Bool.not_true, Bool.not_false, Bool.false_eq_true, false_implies, true_implies, ne_eq] at e1 hne
    go_enter Tryd.func3, Tryd.ntmps3
    go_wp2_with (first
      | (go_at_call 8; refine (new_any w).mono ?_; rintro e w' ⟨rfl, rfl⟩)
      | (go_at_call 9; refine C'.out.mono ?_; rintro e w1 ⟨rfl, ha⟩; obtain ⟨A1, c1, O1⟩ := O0.out.added ha; replace O1 := Lib.hid O1; clear ha C')
      | (go_at_call 7; refine (name_any k k0 k1 w HT.out).mono ?_; rintro e w' ⟨rfl, rfl⟩)
      | (go_at_call 7; refine (name_any o o0 o1 _ (HT.out.frm O1.out.frm id)).mono ?_; rintro e w' ⟨rfl, rfl⟩)
      | (go_at_call 10; refine (lot_any k _).mono ?_; rintro e w' ⟨rfl, rfl⟩)
      | (go_at_call 11; refine (lives_any _ (HT.out.frm O1.out.frm id)).mono ?_; rintro e w2 ⟨rfl, hl⟩))
    go_ret
    exact ⟨by first | (simp; done) | (simp; omega) | (simp [*]; done) | (simp [*]; omega), O1.out.frm.then_ hl⟩

theorem walk (k o : Int) (k0 : 0 ≤ k) (k1 : k ≤ 255) (o0 : 0 ≤ o) (o1 : o ≤ 255) (w : World) (hT : Tab w) :
    Calls Tryd.prog 3 #[.int .u8 k, .int .u8 o] w fun e w' => e = .returned (.bool true) ∧ Frm w w' fun _ => False := by
  by_cases h : k = o
  · subst h; exact walk_same k k0 k1 w hT
  · exact walk_other k o k0 k1 o0 o1 h w hT

end Go.Proofs.YtllicaibgjjidaaDoor.Knd
