import Derived.Test.YtajcijocjbakbaaTbM
namespace Go.Proofs.Ytajcijocjbakbaa
open Go.RowKit

/-! ### Grow -/
def clr1 (k : Bk) : Bk := ⟨k.at_, k.fired, ⟨none, 0, 0⟩, []⟩
/-- The first m buckets are emptied. -/
def clrs (m : Nat) (bs : List Bk) : List Bk := bs.mapIdx fun i k => if i < m then clr1 k else k
theorem clrs_len (m : Nat) (bs : List Bk) : (clrs m bs).length = bs.length := by simp [clrs]
theorem clrs_zero (bs : List Bk) : clrs 0 bs = bs := by
  apply List.ext_getElem?
  intro i
  simp [clrs]
theorem clrs_at {m : Nat} {bs : List Bk} {k : Bk} (h : bs[m]? = some k) : (clrs m bs)[m]? = some k := by
  simp [clrs, h]
theorem clrs_succ {m : Nat} {bs : List Bk} {k : Bk} (h : bs[m]? = some k) : (clrs m bs).set m (clr1 k) = clrs (m + 1) bs := by
  apply List.ext_getElem?
  intro i
  unfold clrs
  rw [List.getElem?_set]
  simp only [List.getElem?_mapIdx]
  by_cases e : m = i
  · subst e
    obtain ⟨hl, he⟩ := List.getElem?_eq_some_iff.1 h
    simp [hl, he]
  · rw [if_neg e]
    cases bs[i]? with
    | none => rfl
    | some x =>
      have : (i < m) ↔ (i < m + 1) := by omega
      simp [this]
theorem clrs_all (bs : List Bk) : clrs bs.length bs = bs.map clr1 := by
  apply List.ext_getElem?
  intro i
  simp only [clrs, List.getElem?_mapIdx, List.getElem?_map]
  cases h : bs[i]? with
  | none => rfl
  | some x =>
    obtain ⟨hl, _⟩ := List.getElem?_eq_some_iff.1 h
    simp [hl]
theorem clrs_mem {m : Nat} {bs : List Bk} {k : Bk} (h : k ∈ clrs m bs) : (∃ k0 ∈ bs, k.hd = k0.hd ∧ k.q = k0.q) ∨ (k.hd = ⟨none, 0, 0⟩ ∧ k.q = []) := by
  unfold clrs at h
  obtain ⟨i, hi⟩ := List.mem_iff_getElem?.1 h
  rw [List.getElem?_mapIdx] at hi
  cases hx : bs[i]? with
  | none => rw [hx] at hi; cases hi
  | some x =>
    rw [hx] at hi
    injection hi with hi
    subst hi
    split
    · exact .inr ⟨rfl, rfl⟩
    · exact .inl ⟨x, List.mem_of_getElem? hx, rfl, rfl⟩
set_option maxRecDepth 100000 in
set_option maxHeartbeats 1000000 in
theorem grow_loop (B s b : Nat) (ts : List Tb) (t : Tb) (d : Int) (nb : Nat) (now : Int) (w : World) (h : TSet w B s b ts) (ht : tget ts d = some t) (hto : tget ts nb = none) (hlt : d < nb) (h2 : 2 ≤ nb) (h8 : nb ≤ 8)
    (htot : (t.bs.flatMap (·.q)).length ≤ 4000) :
    Calls Try.prog 11 #[.pointer (some ⟨s, 0, none⟩), .int .i64 d, .int .i64 nb, .int .u64 now] w fun e w' => ∃ g2 hs', e = .returned (.bool true) ∧ TSet w' B s b (tbs ts d (t.bs.map clr1) ++ [⟨nb, g2, begun now hs' (rehash nb (t.bs.map (·.q)))⟩]) ∧ w.heap.size ≤ g2 ∧ (∀ h ∈ hs', ∀ j, blk h.A j → w.heap.size ≤ j) ∧ hs'.length = 2 ^ nb ∧ Frm w w' fun j => j = t.g ∨ j = b := by
  obtain ⟨i22, hi, hz0, hz1, hz2⟩ := info_parts info22
  obtain ⟨hm, hd⟩ := tget_some ht
  have hp := h.pos ht
  have htb := h.tb t hm
  obtain ⟨g, hg⟩ : ∃ g, t.g = g := ⟨_, rfl⟩
  obtain ⟨n, hn⟩ : ∃ n, t.bs.length = n := ⟨_, rfl⟩
  have HT := Lib.hid h
  have HTT := Lib.hid ht
  have HM := Lib.hid hm
  have HGE := Lib.hid hg
  have HNE := Lib.hid hn
  have HTO := Lib.hid hto
  have hne : (nb : Int) ≠ d := by omega
  have HTOT := Lib.hid htot
  have hgl : g < w.heap.size := by rw [← hg]; exact (h.lt (.inr (.inr (.inl ⟨t, hm, rfl⟩)))).2
  rw [hn] at hp
  have HHF := Lib.hid (fun V (hf : Frm w V fun _ => False) => show Calls Try.prog 10 #[.pointer (some ⟨s, 0, none⟩), .int .i64 d] V fun e w' => e = .returned (.bool true) ∧ V = w' by have := has_any B s b ts d V (h.new_ hf); rw [ht] at this; exact this)
  have HHT := Lib.hid (fun V (hf : Frm w V fun _ => False) => show Calls Try.prog 10 #[.pointer (some ⟨s, 0, none⟩), .int .i64 nb] V fun e w' => e = .returned (.bool false) ∧ V = w' by have := has_any B s b ts nb V (h.new_ hf); rw [hto] at this; exact this)
  obtain ⟨z, hz⟩ : ∃ z, 2 ^ nb = z := ⟨_, rfl⟩
  have hz4 : 4 ≤ z := by rw [← hz]; exact Nat.pow_le_pow_right (n := 2) (by decide) h2
  have HSZ := Lib.hid (fun V => by have := size_any nb V; rw [sz_pow nb h2 h8, hz] at this; exact this)
  have HZ := Lib.hid hz
  have e1 : decide ((nb : Int) ≤ d) = false := by rw [decide_eq_false_iff_not]; omega
  have e2 : ((z : Int) == 0) = false := by simp; omega
  have hc := h.ptr
  have hl := h.lookup d
  rw [ht] at hl
  have hl2 : (Instr.lookup 59 (.map (some b)) (.int .i64 d) false).run Try.prog w = .ok (.slice (some ⟨g, 0, none⟩) n n) w := by rw [← hg, ← hn]; exact hl
  clear h ht hto hm hd htb hg hn hz htot hlt hl
  go_enter Try.func11, Try.ntmps11
  go_wp2_with (first
    | (go_at_call 10; with_reducible refine (HHF.out _ (Frm.refl _ _)).mono ?_; rintro e w' ⟨rfl, rfl⟩)
    | (go_at_call 10; with_reducible refine (HHT.out _ (Frm.refl _ _)).mono ?_; rintro e w' ⟨rfl, rfl⟩)
    | (go_at_call 13; refine (HSZ.out _).mono ?_; rintro e w' ⟨rfl, rfl⟩))
  go_loopw [9, 38] (fun o i wr => ∃ (k : Nat) (A : Option Addr) (cap : Nat), i = .int .i64 k ∧ k ≤ n ∧ o = .slice A k cap ∧ Sl wr w.heap.size 1 A k cap (hds ((t.bs.take k).map (·.hd))) ∧ Sl wr B 3 (some ⟨g, 0, none⟩) n n (bkc (clrs k t.bs)) ∧ Frm w wr fun j => j = g) (fun _ i _ => n - (intOf i).toNat)
  case atStart =>
    refine ⟨0, none, 0, rfl, Nat.zero_le _, rfl, by simpa [hds] using Sl.nil w w.heap.size 1, ?_, Frm.refl _ _⟩
    have := (HT.out.tb t HM.out).1
    rw [HGE.out, HNE.out] at this
    rw [clrs_zero]
    exact this
  case round =>
    obtain ⟨k, A, cap, rfl, hkn, rfl, hS, hR, hF⟩ := hrel
    have S := Lib.hid hS
    have F := Lib.hid hF
    have R := Lib.hid hR
    have hT2 := HT.out.bss HTT.out (clrs k t.bs) (by rw [HGE.out]; exact hF) (by rw [HGE.out, HNE.out]; exact hR) (clrs_len _ _) (fun k' hk' => clrs_mem hk')
    have hg2 := tget_tbs (clrs k t.bs) HTT.out
    have hl3 := hT2.lookup d
    rw [hg2] at hl3
    replace hl3 : (Instr.lookup 59 (.map (some b)) (.int .i64 d) false).run Try.prog wr = .ok (.slice (some ⟨g, 0, none⟩) n n) wr := by
      have e : tval (some { t with bs := clrs k t.bs }) = .slice (some ⟨g, 0, none⟩) n n := by show Tb.V _ = _; simp [Tb.V, clrs_len, HGE.out, HNE.out]
      rw [e] at hl3
      exact hl3
    have hcr := hT2.ptr
    have HT2 := Lib.hid hT2
    clear hS hF hR hT2 hc hl2
    by_cases hlk : k < n
    · have k0 : (0 : Int) ≤ (k : Int) := by omega
      have k1 : (k : Int) < (n : Int) := by omega
      obtain ⟨⟨ka, kf, ⟨Ak, mk, ck⟩, kq⟩, hbk⟩ : ∃ x, t.bs[k]? = some x := ⟨_, List.getElem?_eq_getElem (by rw [HNE.out]; exact hlk)⟩
      have hbk2 : ({ t with bs := clrs k t.bs } : Tb).bs[k]? = some ⟨ka, kf, ⟨Ak, mk, ck⟩, kq⟩ := clrs_at hbk
      obtain ⟨-, -, c2, fz⟩ := HT2.out.bk (tget_some hg2).1 hbk2
      have fz2 := fz (k * 3 + 2)
      replace c2 : wr.cell? ⟨t.g, k * 3 + 2, none⟩ = some (.slice Ak mk ck) := c2
      replace fz2 : wr.frozen? ⟨t.g, k * 3 + 2, none⟩ = false := fz2
      rw [HGE.out] at c2 fz2
      have HC := Lib.hid (And.intro c2 fz2)
      have HBK := Lib.hid hbk
      have hglr : g < wr.heap.size := Nat.lt_of_lt_of_le hgl F.out.size
      obtain ⟨r1, r2⟩ : k + 1 ≤ maxLen ∧ (k + 1) * 24 ≤ 140737488355328 := by unfold maxLen; omega
      clear fz fz2 hbk hbk2 hg2
      go_wp2_with (at_builtin; refine wpList_append_sl _ rfl _ _ 28 rfl w.heap.size 22 i22 _ 1 24 Try.underlying28 hi hz0 hz1 hz2 rfl (by decide) _ _ _ _ rfl (S.out.alloc _) _ 1 1 [.slice Ak mk ck] rfl (Rd.fresh_at _ 22 #[.slice Ak mk ck] rfl rfl) (by simp [Value.oneCell']) r1 r2 (Nat.le_trans F.out.size (by simp)) ?_; intro A' cap' w3 hap; replace hap := Lib.hid hap; have c2 := (((Frm.refl wr (blk A)).alloc (.cells #[.slice Ak mk ck] 22)).then_ hap.out.2.1).cell HC.out.1 (fun hb => by have := (S.out.ge hb).1; simp only at this; omega); have fz2 := ((((Frm.refl wr (blk A)).alloc (.cells #[.slice Ak mk ck] 22)).then_ hap.out.2.1).frozen (p := ⟨g, k * 3 + 2, none⟩) hglr (fun hb => by have := (S.out.ge hb).1; simp only at this; omega)).trans HC.out.2)
      go_roundw
      case rel =>
        have hA : ∀ j, blk A j → w.heap.size ≤ j := fun j hj => (S.out.ge hj).1
        have hF3 : Frm wr w3 (blk A) := ((Frm.refl wr (blk A)).alloc (.cells #[.slice Ak mk ck] 22)).then_ hap.out.2.1
        refine ⟨k + 1, A', cap', by go_num, by omega, rfl, ?_, ?_, ?_⟩
        · have e : hds ((t.bs.take (k + 1)).map (·.hd)) = hds ((t.bs.take k).map (·.hd)) ++ [.slice Ak mk ck] := by
            rw [List.take_add_one, HBK.out]
            simp [hds]
          rw [e]
          exact hap.out.1.setCell (p := ⟨g, k * 3 + 2, none⟩) (fun hb => by have := (hap.out.1.ge hb).1; simp only at this; omega) _
        · have h1 := R.out.frm hF3 (fun j hj hb => by rw [blk_some] at hj; have := hA j hb; omega)
          have h2 := h1.set (j := k * 3 + 2) (by rw [h1.len]; omega) (.slice none 0 0)
          rw [Nat.zero_add] at h2
          have e := bkc_set2 (clrs k t.bs) k ⟨ka, kf, ⟨Ak, mk, ck⟩, kq⟩ ⟨none, 0, 0⟩ [] (clrs_at HBK.out)
          have e2 : (bkc (clrs k t.bs)).set (k * 3 + 2) (.slice none 0 0) = bkc (clrs (k + 1) t.bs) := by rw [← clrs_succ HBK.out]; exact e
          rw [e2] at h2
          exact h2
        · exact (F.out.all hF3 (fun j hj => .inr (hA j hj))).setCell (p := ⟨g, k * 3 + 2, none⟩) (fun _ => rfl) _
      case measure => simp [intOf]; omega
    · obtain rfl : k = n := by omega
      have hrdD : RdD wr wr.heap.size A k (t.bs.map (·.hd)) (t.bs.map (·.q)) := by
        have e : t.bs.take k = t.bs := List.take_of_length_le (by rw [HNE.out]; exact Nat.le_refl _)
        have hS := S.out
        rw [e] at hS
        refine ⟨hS.rd, by rw [List.length_map]; exact HNE.out, by rw [List.length_map]; exact HNE.out, fun i h1 h2 => ?_⟩
        have hib : i < t.bs.length := by simpa using h1
        obtain ⟨a1, a2⟩ := HT.out.qs t HM.out t.bs[i] (List.getElem_mem hib)
        rw [List.getElem_map, List.getElem_map]
        exact (a1.frm F.out (fun j hj e => (a2 j hj).2.2 t HM.out (by rw [HGE.out]; exact e))).rd
      have hq0 : ∀ q ∈ t.bs.map (·.q), q.length ≤ 4000 ∧ ∀ x ∈ q, EnOk x := by
        intro q hq
        obtain ⟨x, hx, rfl⟩ := List.mem_map.1 hq
        refine ⟨?_, HT.out.ok t HM.out x hx⟩
        exact Nat.le_trans (List.sublist_flatten_of_mem hq).length_le (by rw [← List.flatMap_def]; exact HTOT.out)
      have hfl : (t.bs.map (·.q)).flatten.length ≤ 4000 := by rw [← List.flatMap_def]; exact HTOT.out
      have HRE := Lib.hid (fun V (hf : Frm wr V fun _ => False) => rehash_in A k cap nb _ _ V h2 h8 (hrdD.new_ hf) (by omega) (fun q hq => (hq0 q hq).1) (fun q hq => (hq0 q hq).2) hfl)
      rw [HZ.out] at HRE
      have hT2 := HT2.out
      have e5 : clrs k t.bs = t.bs.map clr1 := by rw [← HNE.out]; exact clrs_all _
      rw [e5] at hT2
      have HT3 := Lib.hid hT2
      have z256 : (z : Int) ≤ 1000 := by have h := Nat.pow_le_pow_right (n := 2) (by decide) h8; rw [HZ.out] at h; omega
      have hcd : wr.drew.cell? ⟨s, 0, none⟩ = some (.map (some b)) := hcr
      clear hrdD hq0 hfl hl3 hg2 hT2 e5 HT2 R
      go_wp2_with fail
      go_region_with (first
        | (go_at_call 15; refine (HRE.out _ (Frm.refl wr _).drew).mono ?_; rintro e w2 ⟨g1, hs1, rfl, hO, -, hf⟩; have O := Lib.hid hO; have F2 := Lib.hid (((Frm.refl wr fun _ => False).drew).then_ hf); have hc2 := F2.out.cell hcr id; clear hO hf)
        | (go_at_call 27; refine (mktable_any _ z z now _ _ _ O.out.rd z256).mono ?_; rintro e w3 ⟨g2, rfl, hS, hf⟩; have S3 := Lib.hid hS; have F3 := Lib.hid hf; have hc3 := F3.out.cell hc2 id; obtain ⟨w4, h4, hM4, hf4⟩ := ((HT3.out.map.frm F2.out id).frm F3.out id).update (intL (P := Try.prog) (K := 3) Try.underlying3) Try.underlying59 nb (.slice (some ⟨g2, 0, none⟩) z z); have M4 := Lib.hid hM4; have F4 := Lib.hid hf4; clear hS hf hM4 hf4))
      all_goals
        go_wp2_with fail
        go_ret
        have s2 := F2.out.size
        have s3 := F3.out.size
        have sF := F.out.size
        have hF34 : Frm wr w4 fun j => j = b := (F2.out.then_ F3.out).none_ _ |>.then_ (F4.out.mono fun _ _ e => e)
        have hgS := S3.out.ge ((blk_some _ _ _).2 rfl)
        have hlenO : hs1.length = (rehash nb (t.bs.map (·.q))).length := by rw [O.out.len, O.out.lenq]
        have hbl : (begun now hs1 (rehash nb (t.bs.map (·.q)))).length = z := by rw [begun_len _ _ _ hlenO, rehash_len, HZ.out]
        have hgne : g ≠ b := by have := (HT.out.tb t HM.out).2.2.2.2; rwa [HGE.out] at this
        refine ⟨g2, hs1, rfl, HT3.out.add ⟨nb, g2, _⟩ ?_ hF34 ?_ ?_ ?_ ?_ ?_ ?_, ?_, ?_, ?_, ?_⟩
        · show tget _ (nb : Int) = none
          rw [tget_tbs_ne _ hne]
          exact HTO.out
        · have := M4.out
          rw [show mset ((tbs ts d (t.bs.map clr1)).map fun t => (t.d, t.V)) (nb : Int) (.slice (some ⟨g2, 0, none⟩) z z) = _ from if_neg ?_] at this
          · rw [List.map_append]
            simpa [Tb.V, hbl] using this
          · rw [List.map_map]
            intro hmem
            obtain ⟨t0, h0, e0⟩ := List.mem_map.1 hmem
            have e0 : t0.d = nb := e0
            have hn0 : tget (tbs ts d (t.bs.map clr1)) nb = none := by rw [tget_tbs_ne _ hne]; exact HTO.out
            have := List.find?_eq_none.1 hn0 t0 h0
            simp [e0] at this
        · show Sl _ _ _ _ (begun now hs1 (rehash nb (t.bs.map (·.q)))).length (begun now hs1 (rehash nb (t.bs.map (·.q)))).length _
          rw [hbl]
          exact (S3.out.mono (by have := (HT.out.lt (.inl rfl)).1; have := (HT.out.lt (.inl rfl)).2; omega)).frm F4.out (fun j hj e => by have := S3.out.ge hj; have := (HT.out.lt (.inr (.inl rfl))).2; omega)
        · show (begun now hs1 (rehash nb (t.bs.map (·.q)))).length = sz nb
          rw [hbl, sz_pow nb h2 h8, HZ.out]
        · show tbl (nb : Int) = true
          unfold tbl
          simp
          omega
        · show wr.heap.size ≤ g2
          omega
        · intro x hx
          obtain ⟨i, q1, q2, rfl⟩ := begun_mem hx
          have hr := O.out.row i q1 q2
          have hdr : wr.drew.heap.size = wr.heap.size := rfl
          rw [hdr] at hr
          have hB : B ≤ wr.heap.size := by have := (HT.out.lt (.inl rfl)).1; have := (HT.out.lt (.inl rfl)).2; omega
          refine ⟨((hr.new_ F3.out).mono hB).frm F4.out (fun j hj e => by have := hr.ge hj; have := (HT.out.lt (.inr (.inl rfl))).2; omega), fun j hj => ?_, fun y hy => ?_⟩
          · have := hr.ge hj
            show wr.heap.size ≤ j ∧ j ≠ g2
            omega
          · obtain ⟨p, hp, hyp⟩ := rehash_mem (List.getElem_mem q2) hy
            obtain ⟨x0, hx0, rfl⟩ := List.mem_map.1 hp
            exact HT.out.ok t HM.out x0 hx0 y hyp
        · omega
        · intro h1 hh1 j hj
          obtain ⟨i, hi, rfl⟩ := List.mem_iff_getElem.1 hh1
          have hr := O.out.row i hi (by rw [← hlenO]; exact hi)
          have := (hr.ge hj).1
          have hdr : wr.drew.heap.size = wr.heap.size := rfl
          omega
        · rw [O.out.len, HZ.out]
        · rw [HGE.out]
          exact (F.out.mono fun _ _ e => .inl e).then_ (hF34.mono fun _ _ e => .inr e)
end Go.Proofs.Ytajcijocjbakbaa
