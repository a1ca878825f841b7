import Derived.Test.YtaenclbbiodhfaaLnM
namespace Go.Proofs.Ytaenclbbiodhfaa
open Go.RowKit

/-- An entry under another key. -/
def mv (key : Int) (x : En) : En := ⟨x.t, key, x.tok⟩
theorem ens_set (P R : List En) (x : En) (key : Int) : (ens (P ++ x :: R)).set (P.length * 3 + 1) (.int .u32 key) = ens (P ++ mv key x :: R) := by
  have e : ∀ y : En, ens (P ++ y :: R) = ens P ++ (y.V ++ ens R) := by intro y; simp [ens]
  rw [e, e, ← ens_len P, List.set_append_right _ _ (by omega), show (ens P).length + 1 - (ens P).length = 1 from by omega]
  rfl
set_option maxRecDepth 100000 in
set_option maxHeartbeats 1000000 in
theorem moved_any (A X : Option Addr) (n c m cx : Nat) (key : Int) (xs ms : List En) (w : World) (hr : Rd w w.heap.size 3 A n (ens xs)) (hm : Rd w w.heap.size 3 X m (ens ms)) (hn : (n : Int) ≤ 500) (hml : (m : Int) ≤ 500) :
    Calls Try.prog 33 #[.slice A n c, .slice X m cx, .int .u32 key] w fun e w' => ∃ An, e = .returned (.slice An (n + m) (n + m)) ∧ Sl w' w.heap.size 3 An (n + m) (n + m) (ens (xs ++ ms.map (mv key))) ∧ Frm w w' fun _ => False := by
  have n0 : (0 : Int) ≤ (n : Int) := by omega
  have m0 : (0 : Int) ≤ (m : Int) := by omega
  have s0 : (0 : Int) ≤ (n : Int) + (m : Int) := by omega
  have s1 : (n : Int) + (m : Int) ≤ 9223372036854775807 := by omega
  have n1 : (n : Int) ≤ 9223372036854775807 := by omega
  have HR := Lib.hid hr
  have HM := Lib.hid hm
  have HN := Lib.hid hn
  have HML := Lib.hid hml
  have hfW : Frm w (w.alloc (.cells #[.slice A n c, .slice X m cx] 22)) fun _ => False := (Frm.refl _ _).alloc _
  have hC := concat_any A X n c m cx w.heap.size xs ms (w.alloc (.cells #[.slice A n c, .slice X m cx] 22)) (hr.new_ hfW) (hm.new_ hfW) hn hml (by rw [World.cell?_alloc_new]; rfl) (by rw [World.cell?_alloc_new]; rfl)
  have HC := Lib.hid hC
  have HFW := Lib.hid hfW
  clear hr hm hn hml hC hfW
  go_enter Try.func33, Try.ntmps33
  go_wp2_with fail
  refine HC.out.mono ?_
  rintro e w2 ⟨An, cn, rfl, hs, hf⟩
  have S := Lib.hid (hs.mono (B' := w.heap.size) (by simp))
  have F := Lib.hid (HFW.out.then_ hf)
  have hlx := (Rd.ens HR.out).1
  have hlm := (Rd.ens HM.out).1
  have HLX := Lib.hid hlx
  have HLM := Lib.hid hlm
  clear hs hf hlx hlm
  go_wp2_with fail
  go_loopw [8, 15] (fun _ i wr => ∃ k : Nat, i = .int .i64 k ∧ k ≤ m ∧ Sl wr w.heap.size 3 An (n + m) cn (ens (xs ++ (ms.take k).map (mv key) ++ ms.drop k)) ∧ Frm w wr fun _ => False) (fun _ i _ => m - (intOf i).toNat)
  case atStart => exact ⟨0, rfl, Nat.zero_le _, by simpa using S.out, F.out⟩
  case round =>
    obtain ⟨k, rfl, hk, hS, hF⟩ := hrel
    by_cases hlt : k < m
    · have hle := hS.le
      have hkl : k < ms.length := by have := HLM.out; omega
      obtain ⟨g, off, rfl, hgb, _, hcA, hfA⟩ := hS.form (by omega)
      have hP : (xs ++ (ms.take k).map (mv key)).length = n + k := by
        rw [List.length_append, List.length_map, List.length_take]; have := HLX.out; omega
      have hdrop : ms.drop k = ms[k] :: ms.drop (k + 1) := List.drop_eq_getElem_cons hkl
      have hlen : (n + k) * 3 + 1 < (ens (xs ++ (ms.take k).map (mv key) ++ ms.drop k)).length := by rw [hS.len]; omega
      obtain ⟨z, hz⟩ : ∃ z, (ens (xs ++ (ms.take k).map (mv key) ++ ms.drop k))[(n + k) * 3 + 1]? = some z := ⟨_, List.getElem?_eq_getElem hlen⟩
      have d1 := hcA _ z hz
      have e1 := hfA ((n + k) * 3 + 1)
      have hN := hS.set hlen (.int .u32 key)
      rw [hdrop, ← hP, ens_set, hP] at hN
      have hup : xs ++ (ms.take k).map (mv key) ++ mv key ms[k] :: ms.drop (k + 1) = xs ++ (ms.take (k + 1)).map (mv key) ++ ms.drop (k + 1) := by
        rw [List.take_succ_eq_append_getElem hkl, List.map_append]; simp only [List.map_cons, List.map_nil, List.append_assoc, List.cons_append, List.nil_append]
      rw [hup] at hN
      have NF : Hid (Frm w (wr.setCell ⟨g, off + ((n + k) * 3 + 1), none⟩ (.int .u32 key)) fun _ => False) :=
        hF.fresh ((Frm.refl wr (fun j => j = g)).setCell (p := ⟨g, off + ((n + k) * 3 + 1), none⟩) (fun _ => rfl) _) (fun j hj => by omega)
      have N := Lib.hid hN
      rw [← Nat.add_assoc] at d1 e1
      simp only [← Nat.add_assoc] at N NF
      have i0 : (0 : Int) ≤ (k : Int) := by omega
      have i1 : (k : Int) < (m : Int) := by omega
      have i2 : (0 : Int) ≤ (n : Int) + (k : Int) := by omega
      have i3 : (n : Int) + (k : Int) < (n : Int) + (m : Int) := by omega
      have i4 : (n : Int) + (k : Int) ≤ 9223372036854775807 := by omega
      clear hS hF hcA hfA hlen hz hle hP hdrop hup hN
      go_wp2_with fail
      go_roundw
      case rel => exact ⟨k + 1, by go_num, by omega, N.out, NF.out⟩
      case measure => simp [intOf]; omega
    · obtain rfl : k = m := by omega
      have hle := hS.le
      have S2 := Lib.hid hS
      have F2 := Lib.hid hF
      clear hS hF
      go_wp2_with (go_at_call 66; refine (clip_any _ _ _ hle _).mono ?_; rintro e w5 ⟨rfl, rfl⟩)
      go_ret
      refine ⟨An, rfl, ?_, F2.out⟩
      have h := S2.out.clip (Nat.le_refl _) hle
      rw [List.take_of_length_le (by have := HLM.out; omega), List.drop_eq_nil_of_le (by have := HLM.out; omega), List.append_nil] at h
      exact h
end Go.Proofs.Ytaenclbbiodhfaa
