import Derived.Test.YtajcijocjbakbaaTbJ
namespace Go.Proofs.Ytajcijocjbakbaa
open Go.RowKit

theorem info73 : (Try.prog.info? 73).map (fun i => (i.zero, i.size, i.bytes)) = some (some (.agg #[.int .u64 0, .int .u64 0, .slice none 0 0]), 3, 40) := by kernel_rfl
/-- Buckets whose timers begin now. -/
def begun (now : Int) (hs : List Hd) (qs : List (List En)) : List Bk := (hs.zip qs).map fun p => ⟨now, now, p.1, p.2⟩
def bk0 : Bk := ⟨0, 0, ⟨none, 0, 0⟩, []⟩
theorem made_bk (n : Nat) : (madeCells (Value.agg #[.int .u64 0, .int .u64 0, .slice none 0 0]).cells (n * 3)).toList = bkc (List.replicate n bk0) := by
  apply List.ext_getElem?
  intro i
  have hl : (bkc (List.replicate n bk0)).length = n * 3 := by
    have := flat_len Bk.V 3 Bk.len (List.replicate n bk0)
    rw [List.length_replicate] at this
    exact this
  by_cases hi : i < n * 3
  · have e : i / 3 * 3 + i % 3 = i := by omega
    have h2 := flat_get Bk.V 3 Bk.len (List.replicate n bk0) (i / 3) (i % 3) (by rw [List.length_replicate]; omega) (Nat.mod_lt _ (by decide))
    rw [e] at h2
    show _ = (bkc _)[i]?
    unfold bkc
    rw [h2, List.getElem_replicate]
    have h3 : i % 3 = 0 ∨ i % 3 = 1 ∨ i % 3 = 2 := by omega
    rcases h3 with h3 | h3 | h3 <;> simp [madeCells, Value.cells, hi, h3, bk0, Bk.V]
  · rw [List.getElem?_eq_none (by simp [madeCells]; omega), List.getElem?_eq_none (by rw [hl]; omega)]
set_option maxRecDepth 100000 in
set_option maxHeartbeats 1000000 in
theorem mktable_any (A : Option Addr) (n c : Nat) (now : Int) (hs : List Hd) (qs : List (List En)) (w : World) (hr : RdD w w.heap.size A n hs qs) (hn : (n : Int) ≤ 1000) :
    Calls Try.prog 27 #[.slice A n c, .int .u64 now] w fun e w' => ∃ g, e = .returned (.slice (some ⟨g, 0, none⟩) n n) ∧ Sl w' w.heap.size 3 (some ⟨g, 0, none⟩) n n (bkc (begun now hs qs)) ∧ Frm w w' fun _ => False := by
  obtain ⟨i73, hi, hz0, hz1, hz2⟩ := info_parts info73
  have HR := Lib.hid hr
  have HM : Hid (40 * n ≤ 281474976710656 ∧ n ≤ maxLen) := by show _ ∧ _; unfold maxLen; omega
  clear hr
  go_enter Try.func27, Try.ntmps27
  go_wp2_with (at_make; refine wpList_make_sl _ rfl (.tmp 9) (.tmp 9) 70 rfl 73 i73 _ 3 Try.underlying70 hi hz0 hz1 _ _ _ _ n rfl rfl rfl rfl (by rw [hz2]; exact HM.out.1) HM.out.2 ?_; intro w1 hs1 hf1 hw1; rw [made_bk] at hs1; have S1 := Lib.hid hs1; have F1 := Lib.hid hf1; clear hs1 hf1 hw1)
  go_loopw [13] (fun i wr => ∃ (k : Nat) (l : List Bk), i = .int .i64 k ∧ k ≤ n ∧ l.length = n ∧ (∀ j, j < k → l[j]? = (begun now hs qs)[j]?) ∧ Sl wr w.heap.size 3 (some ⟨w.heap.size, 0, none⟩) n n (bkc l) ∧ Frm w wr fun _ => False) (fun i _ => n - (intOf i).toNat)
  case atStart => exact ⟨0, List.replicate n bk0, rfl, Nat.zero_le _, by simp, (fun j hj => absurd hj (by omega)), S1.out, F1.out⟩
  case round =>
    obtain ⟨k, l, rfl, hkn, hll, hlj, hS, hF⟩ := hrel
    have S := Lib.hid hS
    have F := Lib.hid hF
    have HLL := Lib.hid hll
    have HLJ := Lib.hid hlj
    by_cases hlk : k < n
    · have k0 : (0 : Int) ≤ (k : Int) := by omega
      have k1 : (k : Int) < (n : Int) := by omega
      obtain ⟨g, off, Ak, mk, ck, q, rfl, -, hh, -, hq, hhd, -⟩ := (HR.out.new_ F.out).at hlk
      have hkl : k < l.length := by omega
      obtain ⟨b0, hb0⟩ : ∃ b0, l[k] = b0 := ⟨_, rfl⟩
      have hbk : l[k]? = some b0 := by rw [List.getElem?_eq_getElem hkl, hb0]
      have hlen := hS.len
      have HN := Lib.hid (((hS.set (j := k * 3) (by omega) (.int .u64 now)).set (j := k * 3 + 1) (by rw [List.length_set]; omega) (.int .u64 now)).set (j := k * 3 + 2) (by rw [List.length_set, List.length_set]; omega) (.slice Ak mk ck))
      obtain ⟨g', off', e', _, _, hcA, hfA⟩ := hS.form (by omega)
      injection e' with e'
      injection e' with e1 e2
      subst e1 e2
      have g0 := flat_get Bk.V 3 Bk.len l k 0 hkl (by decide)
      have g1 := flat_get Bk.V 3 Bk.len l k 1 hkl (by decide)
      have g2 := flat_get Bk.V 3 Bk.len l k 2 hkl (by decide)
      have d0 := hcA _ _ g0
      have d1 := hcA _ _ g1
      have d2 := hcA _ _ g2
      have e0 := hfA (k * 3)
      have e1 := hfA (k * 3 + 1)
      have e2 := hfA (k * 3 + 2)
      simp only [Nat.zero_add, Nat.add_zero] at d0 d1 d2 e0 e1 e2
      have HD := Lib.hid (And.intro d0 (And.intro d1 d2))
      have HE := Lib.hid (And.intro e0 (And.intro e1 e2))
      clear g0 g1 g2 d0 d1 d2 e0 e1 e2 hcA hfA hlen hb0 hS hF hll hlj hbk
      go_wp2_with (go_at_call 14; refine (begin_any now _).mono ?_; rintro e w2 ⟨rfl, hf⟩; have d0 := hf.cell HD.out.1 id; have d1 := hf.cell HD.out.2.1 id; have d2 := hf.cell HD.out.2.2 id; have hlt : w.heap.size < wr.heap.size := (S.out.ge ((blk_some _ _ _).2 rfl)).2; have e0 := (hf.frozen (p := ⟨w.heap.size, k * 3, none⟩) hlt id).trans HE.out.1; have e1 := (hf.frozen (p := ⟨w.heap.size, k * 3 + 1, none⟩) hlt id).trans HE.out.2.1; have e2 := (hf.frozen (p := ⟨w.heap.size, k * 3 + 2, none⟩) hlt id).trans HE.out.2.2; have HF2 := Lib.hid hf; clear hf)
      go_roundw
      case rel =>
        have hl := HLL.out
        obtain ⟨b1, hb1⟩ : ∃ b1, l[k]? = some b1 := ⟨_, List.getElem?_eq_getElem hkl⟩
        have S2 := S.out.new_ HF2.out
        have hlen := S2.len
        have N := ((S2.set (j := k * 3) (by omega) (.int .u64 now)).set (j := k * 3 + 1) (by rw [List.length_set]; omega) (.int .u64 now)).set (j := k * 3 + 2) (by rw [List.length_set, List.length_set]; omega) (.slice Ak mk ck)
        rw [bkc_setT l k b1 now now hb1] at N
        have e5 := bkc_set2 (l.set k ⟨now, now, b1.hd, b1.q⟩) k ⟨now, now, b1.hd, b1.q⟩ ⟨Ak, mk, ck⟩ q (by rw [List.getElem?_set_self hkl])
        have e6 : (bkc (l.set k ⟨now, now, b1.hd, b1.q⟩)).set (k * 3 + 2) (.slice Ak mk ck) = bkc ((l.set k ⟨now, now, b1.hd, b1.q⟩).set k ⟨now, now, ⟨Ak, mk, ck⟩, q⟩) := e5
        rw [e6] at N
        simp only [Nat.zero_add] at N
        refine ⟨k + 1, _, by go_num, by omega, by rw [List.length_set, List.length_set]; exact hl, ?_, N, ?_⟩
        · intro j hj
          by_cases hjk : j = k
          · subst hjk
            rw [List.getElem?_set_self (by rw [List.length_set]; exact hkl)]
            unfold begun
            have hz : (hs.zip qs)[j]? = some ((⟨Ak, mk, ck⟩ : Hd), q) := List.getElem?_zip_eq_some.2 ⟨hhd, hq⟩
            rw [List.getElem?_map, hz]
            rfl
          · rw [List.getElem?_set_ne (Ne.symm hjk), List.getElem?_set_ne (Ne.symm hjk)]
            exact HLJ.out j (by omega)
        · exact (((F.out.then_ HF2.out).setCell (p := ⟨w.heap.size, k * 3, none⟩) (fun h => absurd h (Nat.lt_irrefl _)) _).setCell (p := ⟨w.heap.size, k * 3 + 1, none⟩) (fun h => absurd h (Nat.lt_irrefl _)) _).setCell (p := ⟨w.heap.size, k * 3 + 2, none⟩) (fun h => absurd h (Nat.lt_irrefl _)) _
      case measure => simp [intOf]; omega
    · obtain rfl : k = n := by omega
      have hl : l = begun now hs qs := by
        apply List.ext_getElem?
        intro j
        by_cases hj : j < k
        · exact HLJ.out j hj
        · have h1 : (begun now hs qs).length = k := by unfold begun; rw [List.length_map, List.length_zip, HR.out.len, HR.out.lenq]; omega
          rw [List.getElem?_eq_none (by rw [HLL.out]; omega), List.getElem?_eq_none (by omega)]
      have S := Lib.hid (hl ▸ S.out)
      clear hl hS hF hll hlj
      go_wp2_with fail
      go_ret
      exact ⟨w.heap.size, rfl, S.out, F.out⟩
end Go.Proofs.Ytajcijocjbakbaa
