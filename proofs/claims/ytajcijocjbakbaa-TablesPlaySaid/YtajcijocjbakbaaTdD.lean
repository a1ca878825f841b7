import Derived.Test.YtajcijocjbakbaaTdC
namespace Go.Proofs.Ytajcijocjbakbaa
open Go.RowKit

set_option maxRecDepth 100000 in
theorem rputTimer_any (B s : Nat) (T : Nat → RDt) (v : List Vt) (d i a f : Int) (w : World) (h : RSet w B s T v) :
    Calls Try.prog 39 #[.pointer (some ⟨s, 0, none⟩), plV d i, tmV a f] w fun e w' => e = .returned (.bool (vk v d i).isSome) ∧ RSet w' B s T (vputt v d i a f) ∧ Frm w w' (ROwn s T) := by
  have HTH := Lib.hid (fun V (hf : Frm w V fun _ => False) => rthere_any B s T v d i V (h.new_ hf))
  have H := Lib.hid h
  cases hk : vk v d i with
  | none =>
    rw [hk, Option.isSome_none] at HTH
    rw [Option.isSome_none, show vputt v d i a f = v by unfold vputt; rw [hk]]
    clear h hk
    go_enter Try.func39, Try.ntmps39
    go_wp2_with fail
    refine (HTH.out _ (((Frm.refl _ _).alloc _).alloc _)).mono ?_
    rintro e w2 ⟨rfl, hf⟩
    have F := Lib.hid ((((Frm.refl w fun _ => False).alloc (.cells #[.int .i64 d, .int .i64 i] 89)).alloc (.cells #[.int .u64 a, .int .u64 f] 96)).then_ hf)
    clear hf
    go_wp2_with fail
    go_ret
    exact ⟨rfl, H.out.new_ F.out, F.out.none_ _⟩
  | some k =>
    rw [hk, Option.isSome_some] at HTH
    rw [Option.isSome_some]
    obtain ⟨n, m, gq, oq, gt, ot, N, cq, ct, -, rfl, rfl, hn9, hmN, hN, -, hte, -, hrow, c0', c0, -, -, c1, c2, fz, -, hgtl⟩ := h.at hk
    have hvp : vputt v n m a f = vput v n m (a, f, k.2.2) := by unfold vputt; rw [hk]; show vput v n (m : Int).toNat _ = _; rw [Int.toNat_natCast]
    rw [hvp]
    have n0 : (0 : Int) ≤ (n : Int) := by omega
    have n9 : (n : Int) < 9 := by omega
    have m0 : (0 : Int) ≤ (m : Int) := by omega
    have m1 : (m : Int) < (N : Int) := by omega
    have HC := Lib.hid (And.intro c0 (And.intro c1 c2))
    have HFZ := Lib.hid fz
    have HTE := Lib.hid hte
    have HROW := Lib.hid hrow
    clear h hk c0 c1 c2 hvp c0' fz hte hrow
    go_enter Try.func39, Try.ntmps39
    go_wp2_with fail
    refine (HTH.out _ (((Frm.refl _ _).alloc _).alloc _)).mono ?_
    rintro e w2 ⟨rfl, hf⟩
    have q0 := hf.cell (p := ⟨w.heap.size, 0, none⟩) (v := .int .i64 (n : Nat)) (by go_simp) id
    have q1 := hf.cell (p := ⟨w.heap.size, 1, none⟩) (v := .int .i64 (m : Nat)) (by go_simp) id
    have x0 := hf.cell (p := ⟨w.heap.size + 1, 0, none⟩) (v := .int .u64 a) (by go_simp) id
    have x1 := hf.cell (p := ⟨w.heap.size + 1, 1, none⟩) (v := .int .u64 f) (by go_simp) id
    have F := Lib.hid ((((Frm.refl w fun _ => False).alloc (.cells #[.int .i64 (n : Nat), .int .i64 (m : Nat)] 89)).alloc (.cells #[.int .u64 a, .int .u64 f] 96)).then_ hf)
    have c0 := F.out.cell HC.out.1 id
    have c1 := F.out.cell HC.out.2.1 id
    have c2 := F.out.cell HC.out.2.2 id
    have f0 := (F.out.frozen (p := ⟨gt, ot + m * 2, none⟩) hgtl id).trans (HFZ.out (m * 2))
    have f1 : w2.frozen? ⟨gt, ot + m * 2 + 1, none⟩ = false := (F.out.frozen (p := ⟨gt, ot + m * 2 + 1, none⟩) hgtl id).trans (show w.frozen? ⟨gt, ot + m * 2 + 1, none⟩ = false from HFZ.out (m * 2 + 1))
    have hgn : gt ≠ w.heap.size + 1 := by omega
    have hgn2 : gt ≠ w.heap.size := by omega
    clear hf
    go_wp2_with fail
    go_region
    go_wp2_with fail
    go_ret
    have h2 := H.out.new_ F.out
    have ht := h2.t n hn9
    rw [HTE.out] at ht
    have hrl : m < (vrow v n).length := (List.getElem?_eq_some_iff.1 HROW.out).1
    have ht2 := (ht.set (j := m * 2) (by rw [tmc_len]; omega) (.int .u64 a)).set (j := m * 2 + 1) (by rw [List.length_set, tmc_len]; omega) (.int .u64 f)
    rw [tmc_set _ _ k a f k.2.2 HROW.out, ← Nat.add_assoc] at ht2
    have hfr : Frm w2 ((w2.setCell ⟨gt, ot + m * 2, none⟩ (.int .u64 a)).setCell ⟨gt, ot + m * 2 + 1, none⟩ (.int .u64 f)) fun j => j = gt := ((Frm.refl w2 fun j => j = gt).setCell (p := ⟨gt, ot + m * 2, none⟩) (fun _ => rfl) _).setCell (p := ⟨gt, ot + m * 2 + 1, none⟩) (fun _ => rfl) _
    have hb : blk (T n).ht.A gt := by rw [HTE.out]; exact (blk_some _ _ _).2 rfl
    refine ⟨rfl, (h2.putT hn9 HROW.out a f hb hfr (by rw [HTE.out]; exact ht2)).new_ (Frm.refl _ _).drew, ?_⟩
    exact ((F.out.none_ (ROwn s T)).then_ (hfr.mono fun j _ e => .inr ⟨n, hn9, .inr (.inl (e ▸ hb))⟩)).drew
set_option maxRecDepth 100000 in
set_option maxHeartbeats 2000000 in
theorem rput_any (B s : Nat) (T : Nat → RDt) (v : List Vt) (d i : Int) (X : Option Addr) (N1 c1 : Nat) (xs : List En) (w : World) (h : RSet w B s T v) (hr : Rd w w.heap.size 3 X N1 (ens xs)) (hN1 : N1 ≤ 1000) :
    Calls Try.prog 37 #[.pointer (some ⟨s, 0, none⟩), plV d i, .slice X N1 c1] w fun e w' => e = .returned (.bool (vk v d i).isSome) ∧ (∃ T', RSet w' B s T' (vputq v d i xs) ∧ ∀ j, ROwn s T' j → ROwn s T j ∨ w.heap.size ≤ j) ∧ Frm w w' (ROwn s T) := by
  obtain ⟨i101, hi, hz0, hz1, hz2⟩ := info_parts info101
  have HTH := Lib.hid (fun V (hf : Frm w V fun _ => False) => rthere_any B s T v d i V (h.new_ hf))
  have H := Lib.hid h
  have HR := Lib.hid hr
  clear hr
  cases hk : vk v d i with
  | none =>
    rw [hk, Option.isSome_none] at HTH
    rw [Option.isSome_none, show vputq v d i xs = v by unfold vputq; rw [hk]]
    clear h hk
    go_enter Try.func37, Try.ntmps37
    go_wp2_with fail
    refine (HTH.out _ ((Frm.refl _ _).alloc _)).mono ?_
    rintro e w2 ⟨rfl, hf⟩
    have F := Lib.hid (((Frm.refl w fun _ => False).alloc (.cells #[.int .i64 d, .int .i64 i] 89)).then_ hf)
    clear hf
    go_wp2_with fail
    go_ret
    exact ⟨rfl, ⟨T, H.out.new_ F.out, fun j hj => .inl hj⟩, F.out.none_ _⟩
  | some k =>
    rw [hk, Option.isSome_some] at HTH
    rw [Option.isSome_some]
    obtain ⟨n, m, gq, oq, gt, ot, N, cq, ct, hd, rfl, rfl, hn9, hmN, hN, hqe, -, hhs, hrow, c0, -, c1', fz, -, -, -, hgql, -⟩ := h.at hk
    have hvp : vputq v n m xs = vput v n m (k.1, k.2.1, xs) := by unfold vputq; rw [hk]; show vput v n (m : Int).toNat _ = _; rw [Int.toNat_natCast]
    rw [hvp]
    have n0 : (0 : Int) ≤ (n : Int) := by omega
    have n9 : (n : Int) < 9 := by omega
    have m0 : (0 : Int) ≤ (m : Int) := by omega
    have m1 : (m : Int) < (N : Int) := by omega
    obtain ⟨r1, r2⟩ : 0 + N1 ≤ maxLen ∧ (0 + N1) * 24 ≤ 140737488355328 := by unfold maxLen; omega
    have HC := Lib.hid (And.intro c0 c1')
    have HFZ := Lib.hid fz
    have HQE := Lib.hid hqe
    have HROW := Lib.hid hrow
    have HHS := Lib.hid hhs
    clear h hk c0 c1' hvp fz hqe hrow hhs
    go_enter Try.func37, Try.ntmps37
    go_wp2_with fail
    refine (HTH.out _ ((Frm.refl _ _).alloc _)).mono ?_
    rintro e w2 ⟨rfl, hf⟩
    have q0 := hf.cell (p := ⟨w.heap.size, 0, none⟩) (v := .int .i64 (n : Nat)) (by go_simp) id
    have q1 := hf.cell (p := ⟨w.heap.size, 1, none⟩) (v := .int .i64 (m : Nat)) (by go_simp) id
    have F := Lib.hid (((Frm.refl w fun _ => False).alloc (.cells #[.int .i64 (n : Nat), .int .i64 (m : Nat)] 89)).then_ hf)
    have c0 := F.out.cell HC.out.1 id
    have c2 := F.out.cell HC.out.2 id
    have f0 := (F.out.frozen (p := ⟨gq, oq + m, none⟩) hgql id).trans HFZ.out
    have HCE := Lib.hid (And.intro (And.intro q0 q1) (And.intro c0 (And.intro c2 f0)))
    have hgq2 : gq < w2.heap.size := Nat.lt_of_lt_of_le hgql F.out.size
    clear hf
    go_wp2_with fail
    go_region_law (refine step_append_sl _ rfl (.const (.slice none 0 0)) (.tmp 20) 93 rfl w.heap.size 101 i101 _ 3 24 Try.underlying93 hi hz0 hz1 hz2 rfl (by decide) none 0 0 [] rfl (Sl.nil _ _ _) X N1 c1 (ens xs) rfl (HR.out.new_ F.out.drew) (ens_one xs) r1 r2 F.out.drew.size ?_; intro A' cap' w3 hap; rw [Nat.zero_add, List.nil_append] at hap; replace hap := Lib.hid hap; have c0 := hap.out.2.1.cell (p := ⟨s, n, none⟩) HCE.out.2.1 (blk_none _); have c2 := hap.out.2.1.cell (p := ⟨gq, oq + m, none⟩) HCE.out.2.2.1 (blk_none _); have q0 := hap.out.2.1.cell (p := ⟨w.heap.size, 0, none⟩) HCE.out.1.1 (blk_none _); have q1 := hap.out.2.1.cell (p := ⟨w.heap.size, 1, none⟩) HCE.out.1.2 (blk_none _); have f0 := (hap.out.2.1.frozen (p := ⟨gq, oq + m, none⟩) hgq2 (blk_none _)).trans HCE.out.2.2.2)
    all_goals
      go_wp2_with fail
      go_ret
      have h2 := H.out.new_ F.out
      have hF3 : Frm w2 w3 fun _ => False := ((Frm.refl w2 fun _ => False).drew).fresh hap.out.2.1 (fun j hj => absurd hj (blk_none j))
      have hq := (h2.new_ hF3).q n hn9
      rw [HQE.out] at hq
      have hml : m < (T n).hs.length := (List.getElem?_eq_some_iff.1 HHS.out).1
      have hq2 := hq.set (j := m) (by unfold hds; rw [List.length_map]; exact hml) (.slice A' N1 cap')
      have hqe : (hds (T n).hs).set m (.slice A' N1 cap') = hds ((T n).hs.set m ⟨A', N1, cap'⟩) := by unfold hds; rw [List.map_set]
      rw [hqe] at hq2
      have hnew : ∀ j, blk A' j → w2.heap.size ≤ j := fun j hj => (hap.out.2.2 j hj).resolve_left (blk_none j)
      have hgn : ∀ j, blk A' j → ¬ j = gq := fun j hj e => by have := hnew j hj; omega
      have hS4 := hap.out.1.setCell (p := ⟨gq, oq + m, none⟩) (fun hb => hgn gq hb rfl) (.slice A' N1 cap')
      have hfr : Frm w2 (w3.setCell ⟨gq, oq + m, none⟩ (.slice A' N1 cap')) fun j => j = gq := (hF3.none_ fun j => j = gq).setCell (p := ⟨gq, oq + m, none⟩) (fun _ => rfl) _
      have hb : blk (T n).hq.A gq := by rw [HQE.out]; exact (blk_some _ _ _).2 rfl
      refine ⟨rfl, ⟨_, h2.putQ hn9 HROW.out ⟨A', N1, cap'⟩ xs hb hfr (by rw [HQE.out]; exact hq2) hS4.rd (fun j hj => ⟨hnew j hj, (hS4.ge hj).2⟩), fun j hj => ?_⟩, ?_⟩
      · rcases hj with hj | ⟨e, he, hj⟩
        · exact .inl (.inl hj)
        · by_cases hen : e = n
          · subst hen
            dsimp only at hj
            rw [if_pos rfl] at hj
            rcases hj with hj | hj | ⟨y, hy, hj⟩
            · exact .inl (.inr ⟨e, he, .inl hj⟩)
            · exact .inl (.inr ⟨e, he, .inr (.inl hj)⟩)
            · rcases List.mem_or_eq_of_mem_set (show y ∈ (T e).hs.set m ⟨A', N1, cap'⟩ from hy) with hy | rfl
              · exact .inl (.inr ⟨e, he, .inr (.inr ⟨y, hy, hj⟩)⟩)
              · exact .inr (Nat.le_trans F.out.size (hnew j hj))
          · dsimp only at hj
            rw [if_neg hen] at hj
            exact .inl (.inr ⟨e, he, hj⟩)
      · exact (F.out.none_ (ROwn s T)).then_ (hfr.mono fun j _ e => .inr ⟨n, hn9, .inl (e ▸ hb)⟩)
end Go.Proofs.Ytajcijocjbakbaa
