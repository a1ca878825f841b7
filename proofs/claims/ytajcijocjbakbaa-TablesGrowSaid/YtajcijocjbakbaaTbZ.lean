import Derived.Test.YtajcijocjbakbaaTbX
namespace Go.Proofs.Ytajcijocjbakbaa
open Go.RowKit

def vqs (v : List Vt) (nb : Nat) (n : Nat) : List (List En) := (List.range n).map fun (i : Nat) => vq v (nb : Int) (i : Int)
theorem vqs_succ (v : List Vt) (nb n : Nat) : vqs v nb (n + 1) = vqs v nb n ++ [vq v (nb : Int) (n : Int)] := by
  unfold vqs
  rw [List.range_succ, List.map_append]
  rfl
theorem vqs_len (v : List Vt) (nb n : Nat) : (vqs v nb n).length = n := by simp [vqs]
theorem GI.qs {v : List Vt} {nb : Nat} {now : Int} {l : List En} (h : GI v nb now l) : vqs v nb (2 ^ nb) = bks nb l := by
  apply List.ext_getElem?
  intro i
  unfold vqs
  rw [List.getElem?_map]
  by_cases hi : i < 2 ^ nb
  · rw [List.getElem?_range hi, bks_get nb l i hi, Option.map_some, h.q i hi]
  · rw [List.getElem?_eq_none (by rw [List.length_range]; omega), List.getElem?_eq_none (by rw [bks_len]; omega)]
    rfl
set_option maxRecDepth 100000 in
set_option maxHeartbeats 1000000 in
theorem queues_any (s B nb : Nat) (O : Nat → Prop) (v : List Vt) (w : World) (h2 : 2 ≤ nb) (h8 : nb ≤ 8) (hV : SetV w B s O v) (hv : VFew v) :
    Calls Try.prog 9 #[.pointer (some ⟨s, 0, none⟩), .int .i64 nb] w fun e w' => ∃ Ao co hs', e = .returned (.slice Ao (2 ^ nb) co) ∧ OwD w' w.heap.size w.heap.size Ao (2 ^ nb) co hs' (vqs v nb (2 ^ nb)) ∧ Frm w w' fun _ => False := by
  obtain ⟨i22, hi, hz0, hz1, hz2⟩ := info_parts info22
  obtain ⟨z, hz⟩ : ∃ z, 2 ^ nb = z := ⟨_, rfl⟩
  have hz4 : 4 ≤ z := by rw [← hz]; exact Nat.pow_le_pow_right (n := 2) (by decide) h2
  have hz256 : z ≤ 256 := by rw [← hz]; exact Nat.pow_le_pow_right (n := 2) (by decide) h8
  have HSZ := Lib.hid (fun V => show Calls Try.prog 13 #[.int .i64 nb] V fun e w' => e = .returned (.int .i64 (z : Nat)) ∧ V = w' by rw [← hz, ← sz_pow nb h2 h8]; exact size_any _ _)
  rw [hz]
  have HV := Lib.hid hV
  have HVF := Lib.hid hv
  clear hV hv hz
  go_enter Try.func9, Try.ntmps9
  go_wp2_with fail
  go_loopw [5, 6] (fun o i wr => ∃ (b : Nat) (Ao : Option Addr) (co : Nat) (hs' : List Hd), i = .int .i64 b ∧ b ≤ z ∧ o = .slice Ao b co ∧ OwD wr w.heap.size w.heap.size Ao b co hs' (vqs v nb b) ∧ Frm w wr fun _ => False) (fun _ i _ => z - (intOf i).toNat)
  case atStart => exact ⟨0, none, 0, [], rfl, Nat.zero_le _, rfl, OwD.nil _ _ _, Frm.refl _ _⟩
  case round =>
    obtain ⟨b, Ao, co, hs', rfl, hb, rfl, hS, hF⟩ := hrel
    have S := Lib.hid hS
    have F := Lib.hid hF
    clear hS hF
    by_cases hlt : b < z
    · have b0 : (0 : Int) ≤ (b : Int) := by omega
      have b1 : (b : Int) < (z : Int) := by omega
      obtain ⟨q, hq⟩ : ∃ q, vq v (nb : Int) (b : Int) = q := ⟨_, rfl⟩
      obtain ⟨m, hm⟩ : ∃ m, q.length = m := ⟨_, rfl⟩
      have hvs := vqs_succ v nb b
      rw [hq] at hvs
      have HVS := Lib.hid hvs
      have HQ := Lib.hid (fun V (hf : Frm wr V fun _ => False) => show Calls Try.prog 25 #[.pointer (some ⟨s, 0, none⟩), plV nb (b : Nat)] V fun e w' => ∃ A', e = .returned (.slice A' m m) ∧ Sl w' V.heap.size 3 A' m m (ens q) ∧ Frm V w' fun _ => False by
        have := queue_v ((HV.out.new_ F.out).new_ hf) HVF.out nb (b : Nat)
        rw [hq, hm] at this
        exact this)
      obtain ⟨r1, r2⟩ : b + 1 ≤ maxLen ∧ (b + 1) * 24 ≤ 140737488355328 := by unfold maxLen; omega
      clear hq hm hvs
      go_wp2_with (first
        | (go_at_call 13; refine (HSZ.out _).mono ?_; rintro e w' ⟨rfl, rfl⟩)
        | (go_at_call 25; refine (HQ.out _ (Frm.refl _ _)).mono ?_; rintro e w2 ⟨A2, rfl, hs2, hf2⟩; have S2 := Lib.hid hs2; have F2 := Lib.hid hf2; clear hs2 hf2)
        | (at_builtin; refine wpList_append_sl _ rfl _ _ 28 rfl w.heap.size 22 i22 _ 1 24 Try.underlying28 hi hz0 hz1 hz2 rfl (by decide) _ _ _ _ rfl ((S.out.new_ F2.out).out.alloc _) _ 1 1 [.slice A2 m m] rfl (Rd.fresh_at _ 22 #[.slice A2 m m] rfl rfl) (by simp [Value.oneCell']) r1 r2 (Nat.le_trans (Nat.le_trans F.out.size F2.out.size) (by simp)) ?_; intro A' cap' w3 hap; replace hap := Lib.hid hap))
      go_roundw
      case rel =>
        have hlo : ∀ j, blk A2 j → wr.heap.size ≤ j := fun j hj => (S2.out.ge hj).1
        refine ⟨b + 1, A', cap', hs' ++ [⟨A2, m, m⟩], by go_num, by omega, rfl, ?_, ?_⟩
        · rw [HVS.out]
          refine ((S.out.new_ F2.out).new_ ((Frm.refl _ _).alloc _)).push ((S2.out.alloc _).mono F.out.size) (fun j hj h => ?_) (fun i hi j hj h => ?_) hap.out
          · have := hlo j hj; have := (S.out.out.ge h).2; omega
          · have := hlo j hj; have := ((S.out.row i hi (by rw [S.out.lenq, ← S.out.len]; exact hi)).ge h).2; omega
        · exact ((F.out.then_ F2.out).then_ ((Frm.refl _ _).alloc _)).fresh hap.out.2.1 (fun j hj => (S.out.out.ge hj).1)
      case measure => simp [intOf]; omega
    · obtain rfl : b = z := by omega
      go_wp2_with (go_at_call 13; refine (HSZ.out _).mono ?_; rintro e w' ⟨rfl, rfl⟩)
      go_ret
      exact ⟨Ao, co, hs', rfl, S.out, F.out⟩
end Go.Proofs.Ytajcijocjbakbaa
