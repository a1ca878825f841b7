import Derived.Test.YtmjpaaippilioaaDoorPhC
namespace Go.Proofs.YtmjpaaippilioaaDoor
open Go.RowKit

/-! ### the document's words -/
def wAt (word all : ByteArray) (j : Nat) : Bool := (all.extract j (j + (1 + word.size + 1))).toList == ((⟨#[32]⟩ : ByteArray) ++ word ++ (⟨#[32]⟩ : ByteArray)).toList
def isO (word all : ByteArray) : Bool := (List.range (all.size + 1)).any fun j => decide (j + (1 + word.size + 1) ≤ all.size) && wAt word all j
set_option maxRecDepth 100000 in
set_option maxHeartbeats 1000000 in
theorem is_any (word all : ByteArray) (hw : word.size ≤ 1000) (ha : all.size ≤ 1000) (w : World) : Calls Tryd.prog 65 #[.string word, .string all] w fun e w' => e = .returned (.bool (isO word all)) ∧ w = w' := by
  go_enter Tryd.func65, Tryd.ntmps65
  go_wp2_with fail
  go_loopw [6] (fun i wr => ∃ j : Nat, i = .int .i64 j ∧ j ≤ all.size ∧ (∀ k, k < j → (decide (k + (1 + word.size + 1) ≤ all.size) && wAt word all k) = false) ∧ w = wr) (fun i _ => all.size + 1 - (intOf i).toNat)
  case atStart => exact ⟨0, rfl, Nat.zero_le _, fun k hk => absurd hk (Nat.not_lt_zero _), rfl⟩
  case round =>
    obtain ⟨j, rfl, hj, hno, hwr⟩ := hrel
    subst hwr
    have HN := Lib.hid hno
    have j0 : (0 : Int) ≤ (j : Int) := by omega
    have j1 : (j : Int) ≤ 1000 := by omega
    clear hno
    go_wp2_with fail
    · have hle : j + (1 + word.size + 1) ≤ all.size := by omega
      have hb : wAt word all j = true := by unfold wAt; assumption
      go_ret
      refine ⟨?_, rfl⟩
      have : isO word all = true := by
        unfold isO
        rw [List.any_eq_true]
        exact ⟨j, List.mem_range.2 (by omega), by rw [hb, decide_eq_true hle]; rfl⟩
      rw [this]
      rfl
    · have hle : j + (1 + word.size + 1) ≤ all.size := by omega
      have hb : wAt word all j = false := by unfold wAt; assumption
      go_roundw
      case rel =>
        refine ⟨j + 1, by go_num, by omega, fun k hk => ?_, trivial⟩
        by_cases hkj : k = j
        · subst hkj; rw [hb, Bool.and_false]
        · exact HN.out k (by omega)
      case measure => simp [intOf]; omega
    · have hle : ¬ j + (1 + word.size + 1) ≤ all.size := by omega
      go_ret
      refine ⟨?_, rfl⟩
      have : isO word all = false := by
        unfold isO
        rw [List.any_eq_false]
        intro k hk
        by_cases hkj : k < j
        · rw [HN.out k hkj]; decide
        · rw [decide_eq_false (by omega)]; simp
      rw [this]
      rfl
theorem words_any (w : World) : Calls Tryd.prog 84 #[] w fun e w' => e = .returned (.slice (some ⟨w.heap.size, 0, none⟩) 26 26) ∧ w' = w.alloc (.cells ⟨usesL.map fun u => .string u.word⟩ 9) := by
  go_enter Tryd.func84, Tryd.ntmps84
  go_wp2_with fail
  go_ret
  exact ⟨rfl, rfl⟩
def wordO (k : Int) : ByteArray := if 0 ≤ k ∧ k < 26 then (Ut k.toNat).word else ⟨#[]⟩
set_option maxRecDepth 100000 in
theorem word_ref (k : Int) (w : World) : Calls Tryd.prog 63 #[.int .i64 k] w fun e w' => e = .returned (.string (wordO k)) ∧ Frm w w' fun _ => False := by
  have hW : Frm w (w.alloc (.cells ⟨usesL.map fun u => .string u.word⟩ 9)) fun _ => False := (Frm.refl _ _).alloc _
  have hc : ∀ j (hj : j < 26), (w.alloc (.cells ⟨usesL.map fun u => .string u.word⟩ 9)).cell? ⟨w.heap.size, j, none⟩ = some (.string (Ut j).word) := fun j hj => by
    rw [World.cell?_alloc_new]
    have hl : usesL.length = 26 := by decide
    have e : Ut j = usesL[j]'(by omega) := by unfold Ut; rw [List.getD_eq_getElem?_getD, List.getElem?_eq_getElem (by omega)]; rfl
    rw [e]
    simp
    exact ⟨_, List.getElem?_eq_getElem (by omega), rfl⟩
  obtain ⟨W, hWe⟩ : ∃ W, w.alloc (.cells ⟨usesL.map fun u => .string u.word⟩ 9) = W := ⟨_, rfl⟩
  rw [hWe] at hW hc
  have HWA : Calls Tryd.prog 84 #[] w fun e w' => e = .returned (.slice (some ⟨w.heap.size, 0, none⟩) 26 26) ∧ w' = W := by rw [← hWe]; exact words_any w
  have HWA := Lib.hid HWA
  have HF := Lib.hid hW
  unfold wordO
  clear hWe hW
  by_cases h0 : 0 ≤ k
  · by_cases h26 : k < 26
    · obtain ⟨j, rfl⟩ := Int.eq_ofNat_of_zero_le h0
      have c0 := hc j (by omega)
      rw [if_pos ⟨h0, h26⟩, Int.toNat_natCast]
      obtain ⟨T, hT⟩ : ∃ T, (Ut j).word = T := ⟨_, rfl⟩
      rw [hT] at c0 ⊢
      clear hc hT
      go_enter Tryd.func63, Tryd.ntmps63
      go_wp2_with (go_at_call 84; refine HWA.out.mono ?_; rintro e w1 ⟨rfl, rfl⟩)
      go_ret
      exact ⟨rfl, HF.out⟩
    · have h26' : 26 ≤ k := by omega
      rw [if_neg (fun h => h26 h.2)]
      clear hc
      go_enter Tryd.func63, Tryd.ntmps63
      go_wp2_with (go_at_call 84; refine HWA.out.mono ?_; rintro e w1 ⟨rfl, rfl⟩)
      go_ret
      exact ⟨rfl, HF.out⟩
  · have h0' : k < 0 := by omega
    rw [if_neg (fun h => h0 h.1)]
    clear hc
    go_enter Tryd.func63, Tryd.ntmps63
    go_wp2_with (go_at_call 84; refine HWA.out.mono ?_; rintro e w1 ⟨rfl, rfl⟩)
    go_ret
    exact ⟨rfl, HF.out⟩
/-- How many Args: the document's. -/
def argsO (w : ByteArray) : Int := if isO w ⟨#[32, 112, 97, 114, 107, 32, 111, 110, 101, 32, 97, 108, 108, 32, 115, 111, 109, 101, 32]⟩ then 256 else if w.toList == [100, 111] then 16 else if w.toList == [114, 101, 113, 117, 101, 117, 101] then 5 else 1
set_option maxRecDepth 100000 in
theorem args_ref (x : ByteArray) (hx : x.size ≤ 1000) (w : World) : Calls Tryd.prog 79 #[.string x] w fun e w' => e = .returned (.int .i64 (argsO x)) ∧ w = w' := by
  have HI := Lib.hid (is_any x ⟨#[32, 112, 97, 114, 107, 32, 111, 110, 101, 32, 97, 108, 108, 32, 115, 111, 109, 101, 32]⟩ hx (by decide) w)
  unfold argsO
  obtain ⟨b, hb⟩ : ∃ b, isO x ⟨#[32, 112, 97, 114, 107, 32, 111, 110, 101, 32, 97, 108, 108, 32, 115, 111, 109, 101, 32]⟩ = b := ⟨_, rfl⟩
  rw [hb] at HI ⊢
  clear hb
  cases b with
  | true =>
    go_enter Tryd.func79, Tryd.ntmps79
    go_wp2_with (go_at_call 65; refine HI.out.mono ?_; rintro e w1 ⟨rfl, rfl⟩)
    go_ret
    exact ⟨rfl, rfl⟩
  | false =>
    cases h1 : (x.toList == [100, 111]) with
    | true =>
      go_enter Tryd.func79, Tryd.ntmps79
      go_wp2_with (go_at_call 65; refine HI.out.mono ?_; rintro e w1 ⟨rfl, rfl⟩)
      go_ret
      exact ⟨rfl, rfl⟩
    | false =>
      cases h2 : (x.toList == [114, 101, 113, 117, 101, 117, 101]) with
      | true =>
        go_enter Tryd.func79, Tryd.ntmps79
        go_wp2_with (go_at_call 65; refine HI.out.mono ?_; rintro e w1 ⟨rfl, rfl⟩)
        go_ret
        exact ⟨rfl, rfl⟩
      | false =>
        go_enter Tryd.func79, Tryd.ntmps79
        go_wp2_with (go_at_call 65; refine HI.out.mono ?_; rintro e w1 ⟨rfl, rfl⟩)
        go_ret
        exact ⟨rfl, rfl⟩
/-! ### the document's plain operation -/
abbrev aOther : ByteArray := ⟨#[32, 119, 97, 105, 116, 32, 114, 101, 113, 117, 101, 117, 101, 32]⟩
end Go.Proofs.YtmjpaaippilioaaDoor
