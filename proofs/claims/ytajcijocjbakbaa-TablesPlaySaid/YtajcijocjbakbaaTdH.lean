import Derived.Test.YtajcijocjbakbaaTdG
namespace Go.Proofs.Ytajcijocjbakbaa
open Go.RowKit

theorem RSet.rdD {w : World} {B s : Nat} {T : Nat → RDt} {v : List Vt} (h : RSet w B s T v) {n : Nat} (hn9 : n < 9) : RdD w w.heap.size (T n).hq.A (T n).hq.n (T n).hs ((vrow v n).map (·.2.2)) := by
  obtain ⟨n1, n2, n3⟩ := h.n n hn9
  refine ⟨(h.q n hn9).rd, by rw [n2, n1], by rw [List.length_map, n1], fun i h1 h2 => ?_⟩
  have h3 : i < (vrow v n).length := by simpa using h2
  rw [List.getElem_map]
  exact h.r n hn9 i _ _ (List.getElem?_eq_getElem h1) (List.getElem?_eq_getElem h3)
theorem tmc_begun (now : Int) (Q : List (List En)) : tmc (vbegun now Q) = tmc (List.replicate Q.length (now, now, [])) := by
  induction Q with
  | nil => rfl
  | cons q r ih =>
    show [Value.int .u64 now, Value.int .u64 now] ++ tmc (vbegun now r) = [Value.int .u64 now, Value.int .u64 now] ++ tmc (List.replicate r.length (now, now, []))
    rw [ih]
theorem tmc_clr (bs : List Vk) : tmc (bs.map fun k => (k.1, k.2.1, [])) = tmc bs := by
  unfold tmc
  rw [List.flatMap_map]
set_option maxRecDepth 100000 in
theorem rgrow_no (P0 : Option Addr) (d e now : Int) (w : World) (bf bt : Bool) (h : Calls Try.prog 45 #[.pointer P0, .int .i64 d] w fun e w' => e = .returned (.bool bf) ∧ w = w') (h2 : Calls Try.prog 45 #[.pointer P0, .int .i64 e] w fun e w' => e = .returned (.bool bt) ∧ w = w') (hno : bf = false ∨ e ≤ d ∨ 8 < e ∨ bt = true) :
    Calls Try.prog 41 #[.pointer P0, .int .i64 d, .int .i64 e, .int .u64 now] w fun e w' => e = .returned (.bool false) ∧ w = w' := by
  have H := Lib.hid h
  have H2 := Lib.hid h2
  clear h h2
  cases bf with
  | false =>
    clear hno
    go_enter Try.func41, Try.ntmps41
    go_wp2_with (go_at_call 45; refine H.out.mono ?_; rintro _ _ ⟨rfl, rfl⟩)
    go_ret
    exact ⟨rfl, rfl⟩
  | true =>
    by_cases h1 : e ≤ d
    · have e1 : decide (e ≤ d) = true := by rw [decide_eq_true_eq]; exact h1
      clear hno
      go_enter Try.func41, Try.ntmps41
      go_wp2_with (go_at_call 45; refine H.out.mono ?_; rintro _ _ ⟨rfl, rfl⟩)
      go_ret
      exact ⟨rfl, rfl⟩
    · have e1 : decide (e ≤ d) = false := by rw [decide_eq_false_iff_not]; exact h1
      by_cases h8 : 8 < e
      · have e2 : decide (8 < e) = true := by rw [decide_eq_true_eq]; exact h8
        clear hno
        go_enter Try.func41, Try.ntmps41
        go_wp2_with (go_at_call 45; refine H.out.mono ?_; rintro _ _ ⟨rfl, rfl⟩)
        go_ret
        exact ⟨rfl, rfl⟩
      · have e2 : decide (8 < e) = false := by rw [decide_eq_false_iff_not]; exact h8
        have hb : bt = true := by
          rcases hno with h | h | h | h
          · cases h
          · exact absurd h h1
          · exact absurd h h8
          · exact h
        subst hb
        clear hno
        go_enter Try.func41, Try.ntmps41
        go_wp2_with fail
        refine H.out.mono ?_
        rintro _ _ ⟨rfl, rfl⟩
        go_wp2_with fail
        refine H2.out.mono ?_
        rintro _ _ ⟨rfl, rfl⟩
        go_wp2_with fail
        go_ret
        exact ⟨rfl, rfl⟩
set_option maxRecDepth 100000 in
set_option maxHeartbeats 2000000 in
theorem rgrow_yes (B s : Nat) (T : Nat → RDt) (v : List Vt) (n m : Nat) (bs : List Vk) (now : Int) (w : World) (h : RSet w B s T v) (hv : VFew v) (hok : ∀ k ∈ bs, ∀ x ∈ k.2.2, EnOk x) (hg : vget v n = some bs) (hgm : vget v m = none) (hnm : n < m) (hm8 : m ≤ 8) :
    Calls Try.prog 41 #[.pointer (some ⟨s, 0, none⟩), .int .i64 n, .int .i64 m, .int .u64 now] w fun e w' => e = .returned (.bool true) ∧ (∃ T', RSet w' B s T' (vgrow v n m now) ∧ ∀ j, ROwn s T' j → ROwn s T j ∨ w.heap.size ≤ j) ∧ Frm w w' (ROwn s T) := by
  have htb := (tbl_iff _).1 (h.ok n bs hg).1
  have hn2 : 2 ≤ n := by omega
  have HF1 := Lib.hid (show Calls Try.prog 45 #[.pointer (some ⟨s, 0, none⟩), .int .i64 n] w fun e w' => e = .returned (.bool true) ∧ w = w' by have := rhas_any B s T v n w h; rw [hg] at this; exact this)
  have HF2 := Lib.hid (show Calls Try.prog 45 #[.pointer (some ⟨s, 0, none⟩), .int .i64 m] w fun e w' => e = .returned (.bool false) ∧ w = w' by have := rhas_any B s T v m w h; rw [hgm] at this; exact this)
  have hrow := vrow_some hg
  have hfew : (bs.map (·.2.2)).flatten.length ≤ 4000 := by have := hv n; rw [hrow, List.flatMap_def] at this; exact this
  have hq4 : ∀ q ∈ bs.map (·.2.2), q.length ≤ 4000 ∧ ∀ x ∈ q, EnOk x := by
    intro q hq
    obtain ⟨k, hk, rfl⟩ := List.mem_map.1 hq
    exact ⟨Nat.le_trans (List.sublist_flatten_of_mem hq).length_le hfew, hok k hk⟩
  have hrd := h.rdD (n := n) (by omega)
  rw [hrow] at hrd
  have hN : (T n).hq.n ≤ 256 := by have := (h.n n (by omega)).1; have h2 := h.ok.few n; omega
  obtain ⟨⟨Aq, N, cq⟩, hqe⟩ : ∃ x, (T n).hq = x := ⟨_, rfl⟩
  have hc := (h.cell n (by omega)).1
  rw [hqe] at hrd hN hc
  have hc : w.cell? ⟨s, n, none⟩ = some (.slice Aq N cq) := hc
  have hN : N ≤ 256 := hN
  have HRE := Lib.hid (fun V (hf : Frm w V fun _ => False) => rrehash_in Aq N cq m (T n).hs (bs.map (·.2.2)) V (by omega) hm8 (hrd.new_ hf) (by omega) (fun q hq => (hq4 q hq).1) (fun q hq => (hq4 q hq).2) hfew)
  have HRN := Lib.hid (fun V : World => rrehash_in none 0 0 n [] [] V hn2 (by omega) (OwD.nil V V.heap.size V.heap.size).rd (by decide) (by simp) (by simp) (by simp))
  have HBE := Lib.hid (fun V : World => rbegins_any m now V (by omega) hm8)
  obtain ⟨z, hz⟩ : ∃ z, 2 ^ m = z := ⟨_, rfl⟩
  obtain ⟨y, hy⟩ : ∃ y, 2 ^ n = y := ⟨_, rfl⟩
  rw [hz] at HRE HBE
  rw [hy] at HRN
  have HZ := Lib.hid (And.intro hz hy)
  have H := Lib.hid h
  have HG := Lib.hid (And.intro hg hgm)
  have hsl := h.low.2
  have e1 : decide ((m : Int) ≤ (n : Int)) = false := by rw [decide_eq_false_iff_not]; omega
  have e2 : decide ((8 : Int) < (m : Int)) = false := by rw [decide_eq_false_iff_not]; omega
  have n0 : (0 : Int) ≤ (n : Int) := by omega
  have n9 : (n : Int) < 9 := by omega
  have m0 : (0 : Int) ≤ (m : Int) := by omega
  have m9 : (m : Int) < 9 := by omega
  have HC := Lib.hid hc
  clear h hv hok hg hgm htb hrow hfew hq4 hrd hz hy
  go_enter Try.func41, Try.ntmps41
  go_wp2_with fail
  refine HF1.out.mono ?_
  rintro _ _ ⟨rfl, rfl⟩
  go_wp2_with fail
  refine HF2.out.mono ?_
  rintro _ _ ⟨rfl, rfl⟩
  go_wp2_with fail
  go_region_with (go_at_call 33; refine (HRE.out _ (Frm.refl w _).drew).mono ?_; rintro e w2 ⟨Ao, co, hs1, rfl, hO, hf⟩; have O := Lib.hid hO; have F2 := Lib.hid (((Frm.refl w fun _ => False).drew).then_ hf); have cm := F2.out.cell (p := ⟨s, m, none⟩) (H.out.cell m (by omega)).1 id; have fm := (F2.out.frozen (p := ⟨s, m, none⟩) hsl id).trans (H.out.free m); clear hO hf)
  go_wp2_with fail
  refine at_world' ?_
  intro U hU
  have hFU : Frm w U fun j => j = s := by rw [hU]; exact (F2.out.none_ fun j => j = s).setCell (p := ⟨s, m, none⟩) (fun _ => rfl) _
  have hUq : ∀ d : Nat, d < 9 → U.cell? ⟨s, d, none⟩ = some (if d = m then .slice Ao z co else (T d).hq.V) := fun d hd => by rw [hU]; exact cell_set (F2.out.cell (H.out.cell d hd).1 id)
  have hUt : ∀ d : Nat, d < 9 → U.cell? ⟨s, 9 + d, none⟩ = some (T d).ht.V := fun d hd => by rw [hU]; have := cell_set (i := m) (v := .slice Ao z co) (F2.out.cell (H.out.cell d hd).2 id); rw [if_neg (by omega)] at this; exact this
  have hUfz : ∀ j, U.frozen? ⟨s, j, none⟩ = false := fun j => by rw [hU, World.frozen?_setCell]; exact (F2.out.frozen (p := ⟨s, j, none⟩) hsl id).trans (H.out.free j)
  have hOU : OwD U w.heap.size w.heap.size Ao z co hs1 (rehash m (bs.map (·.2.2))) := by
    rw [hU]
    exact O.out.frm (S := fun j => j = s) ((Frm.refl w2 fun j => j = s).setCell (p := ⟨s, m, none⟩) (fun _ => rfl) _) (fun k hk e => by have : w.heap.size ≤ k := (O.out.out.ge hk).1; omega) (fun k hk _ e => by have : w.heap.size ≤ k := hk; omega)
  have hsU : s < U.heap.size := Nat.lt_of_lt_of_le hsl hFU.size
  have HU := Lib.hid (And.intro hFU (And.intro hUq (And.intro hUt (And.intro hUfz hOU))))
  clear hU hFU hUq hUt hUfz hOU cm fm O F2 HRE
  go_region_with (go_at_call 34; refine (HBE.out _).mono ?_; rintro e w3 ⟨At, ct, rfl, hT, hf⟩; have TT := Lib.hid hT; have F3 := Lib.hid (((Frm.refl U fun _ => False).drew).then_ hf); have c11 : w3.cell? ⟨s, 9 + m, none⟩ = some (T m).ht.V := F3.out.cell (HU.out.2.2.1 m (by omega)) id; have f11 := (F3.out.frozen (p := ⟨s, 9 + m, none⟩) hsU id).trans (HU.out.2.2.2.1 (9 + m)); clear hT hf)
  go_wp2_with fail
  refine at_world' ?_
  intro U2 hU2
  have hFU2 : Frm U U2 fun j => j = s := by rw [hU2]; exact (F3.out.none_ fun j => j = s).setCell (p := ⟨s, 9 + m, none⟩) (fun _ => rfl) _
  have hq2 : ∀ d : Nat, d < 9 → U2.cell? ⟨s, d, none⟩ = some (if d = m then .slice Ao z co else (T d).hq.V) := fun d hd => by rw [hU2]; have := cell_set (i := 9 + m) (v := .slice At z ct) (F3.out.cell (HU.out.2.1 d hd) id); rw [if_neg (by omega)] at this; exact this
  have ht2 : ∀ d : Nat, d < 9 → U2.cell? ⟨s, 9 + d, none⟩ = some (if d = m then .slice At z ct else (T d).ht.V) := fun d hd => by
    rw [hU2]
    have := cell_set (i := 9 + m) (v := .slice At z ct) (F3.out.cell (HU.out.2.2.1 d hd) id)
    by_cases e : d = m
    · subst e; rw [if_pos rfl] at this ⊢; exact this
    · rw [if_neg (by omega)] at this; rw [if_neg e]; exact this
  have hfz2 : ∀ j, U2.frozen? ⟨s, j, none⟩ = false := fun j => by rw [hU2, World.frozen?_setCell]; exact (F3.out.frozen (p := ⟨s, j, none⟩) hsU id).trans (HU.out.2.2.2.1 j)
  have hwU : w.heap.size ≤ U.heap.size := HU.out.1.size
  have htU : ∀ j, blk At j → U.heap.size ≤ j := fun j hj => (TT.out.ge hj).1
  have hO2 : OwD U2 w.heap.size w.heap.size Ao z co hs1 (rehash m (bs.map (·.2.2))) := by
    rw [hU2]
    exact (HU.out.2.2.2.2.new_ F3.out).frm (S := fun j => j = s) ((Frm.refl w3 fun j => j = s).setCell (p := ⟨s, 9 + m, none⟩) (fun _ => rfl) _) (fun k hk e => by have := (HU.out.2.2.2.2.out.ge hk).1; omega) (fun k hk _ e => by omega)
  have hT2 : Sl U2 U.heap.size 2 At z ct (tmc (List.replicate z (now, now, []))) := by
    rw [hU2]
    have := TT.out.setCell (p := ⟨s, 9 + m, none⟩) (fun hb => by have := htU s hb; omega) (.slice At z ct)
    exact this
  obtain ⟨Q, hQ⟩ : ∃ Q, rehash m (bs.map (·.2.2)) = Q := ⟨_, rfl⟩
  rw [hQ] at hO2
  have hQl : Q.length = z := by rw [← hQ, rehash_len]; exact HZ.out.1
  have hbl : (vbegun now Q).length = z := by unfold vbegun; rw [List.length_map]; exact hQl
  have hR1 : RSet U2 B s (fun e => if e = m then ⟨⟨Ao, z, co⟩, hs1, ⟨At, z, ct⟩⟩ else T e) (v ++ [((m : Int), vbegun now Q)]) := by
    refine H.out.setTab ⟨Ao, z, co⟩ ⟨At, z, ct⟩ hs1 (vbegun now Q) (HU.out.1.then_ hFU2) ?_ hfz2 hO2.out ?_ ⟨hbl.symm, by rw [hbl]; exact hO2.len, hbl.symm⟩ (rows_of hO2 _ ?_) ?_ ?_ ?_ ((tbl_iff _).2 (by omega)) ?_
    · intro d hd
      have h1 := hq2 d hd
      have h2 := ht2 d hd
      by_cases e : d = m
      · rw [if_pos e] at h1 h2 ⊢; rw [if_pos e]; exact ⟨h1, h2⟩
      · rw [if_neg e] at h1 h2 ⊢; rw [if_neg e]; exact ⟨h1, h2⟩
    · rw [tmc_begun, hQl]
      exact hT2.mono (by have := H.out.low.1; omega)
    · unfold vbegun
      rw [List.map_map]
      show Q.map (fun q => q) = Q
      simp
    · intro x hx j hj
      obtain ⟨i, hi, rfl⟩ := List.mem_iff_getElem.1 hx
      have h3 := (hO2.row i hi (by rw [hO2.lenq, ← hO2.len]; exact hi)).ge hj
      have hlU : i < (rehash m (bs.map (·.2.2))).length := by rw [hQ, hQl, ← hO2.len]; exact hi
      have h4 := (HU.out.2.2.2.2.row i hi hlU).ge hj
      exact ⟨h3.1, h3.2, hO2.dA i hi j hj, fun hh => by have := htU j hh; omega⟩
    · intro j hj
      have h3 : U.heap.size ≤ j := htU j hj
      refine ⟨by omega, fun hh => by have := (HU.out.2.2.2.2.out.ge hh).2; omega, fun e he hne => ⟨fun hh => ?_, fun hh => ?_, fun x hx hh => ?_⟩⟩
      · have := ((H.out.q e he).ge hh).2; omega
      · have := ((H.out.t e he).ge hh).2; omega
      · have := (H.out.rb e he x hx j hh).2.1; omega
    · intro e
      rw [vget_snoc]
      by_cases he : e = (m : Int)
      · rw [if_pos he, he, HG.out.2]
        simp
      · rw [if_neg he, if_neg (fun x => he x.symm)]
        cases vget v e <;> rfl
    · rw [hbl, sz_pow m (by omega) hm8]
      exact HZ.out.1.symm
  have R1 := Lib.hid hR1
  have HF2 := Lib.hid (HU.out.1.then_ hFU2)
  have HQ := Lib.hid hQ
  have HTT := Lib.hid (And.intro hO2 hT2)
  have hwU2 : U.heap.size ≤ U2.heap.size := hFU2.size
  have hcn : U2.cell? ⟨s, n, none⟩ = some (T n).hq.V := by have := hq2 n (by omega); rw [if_neg (by omega)] at this; exact this
  have HCN := Lib.hid hcn
  have hsU2 : s < U2.heap.size := Nat.lt_of_lt_of_le hsU hwU2
  clear hU2 hFU2 hq2 ht2 hfz2 hO2 hT2 hR1 hQ hcn c11 f11 TT F3 HBE
  go_region_with (go_at_call 33; refine (HRN.out _).mono ?_; rintro e w5 ⟨Ae, ce, hs2, rfl, hO, hf⟩; have O5 := Lib.hid hO; have F5 := Lib.hid (((Frm.refl U2 fun _ => False).drew).then_ hf); have cn := F5.out.cell HCN.out id; have fn := (F5.out.frozen (p := ⟨s, n, none⟩) hsU2 id).trans (R1.out.free n); clear hO hf)
  all_goals
    go_wp2_with fail
    go_ret
    have hfin : Frm U2 (w5.setCell ⟨s, n, none⟩ (.slice Ae y ce)) fun j => j = s := (F5.out.none_ fun j => j = s).setCell (p := ⟨s, n, none⟩) (fun _ => rfl) _
    have hO6 : OwD (w5.setCell ⟨s, n, none⟩ (.slice Ae y ce)) U2.heap.size U2.heap.size Ae y ce hs2 (rehash n []) :=
      O5.out.frm (S := fun j => j = s) ((Frm.refl w5 fun j => j = s).setCell (p := ⟨s, n, none⟩) (fun _ => rfl) _) (fun k hk e => by have : U2.heap.size ≤ k := (O5.out.out.ge hk).1; omega) (fun k hk _ e => by have : U2.heap.size ≤ k := hk; omega)
    obtain ⟨htn, hsn⟩ := H.out.ok n bs HG.out.1
    have hy : bs.length = y := by rw [hsn, sz_pow n hn2 (by omega)]; exact HZ.out.2
    have hrow := vrow_some HG.out.1
    have hrn : rehash n [] = List.replicate y [] := by rw [← HZ.out.2]; exact bks_nil n
    have hn9' : n < 9 := by omega
    have hnm' : n ≠ m := by omega
    have T1n : ((if n = m then ⟨⟨Ao, z, co⟩, hs1, ⟨At, z, ct⟩⟩ else T n) : RDt) = T n := if_neg hnm'
    have hlow : B ≤ U2.heap.size := by have := H.out.low.1; omega
    have ht6 := (R1.out.t n hn9').frm hfin (fun j hj e => (R1.out.ds n hn9').2 (e ▸ hj))
    have hvn : vrow (v ++ [((m : Int), vbegun now Q)]) n = bs := by
      unfold vrow
      rw [vget_snoc, HG.out.1]
      rfl
    have hR2 := R1.out.setTab (m := n) (v' := vgrow v n m now) ⟨Ae, y, ce⟩ (T n).ht hs2 (bs.map fun k => (k.1, k.2.1, [])) hfin ?_ ?_ hO6.out ?_ ?_ (rows_of hO6 _ ?_) ?_ ?_ ?_ htn (by rw [List.length_map]; exact hsn)
    · refine ⟨rfl, ⟨_, hR2, fun j hj => ?_⟩, ((HF2.out.then_ hfin).mono fun j _ e => .inl e)⟩
      rcases ROwn.setTab hj with hj | hj | hj | ⟨x, hx, hj⟩
      · rcases ROwn.setTab hj with hj | hj | hj | ⟨x, hx, hj⟩
        · exact .inl hj
        · exact .inr (HTT.out.1.out.ge hj).1
        · exact .inr (by have : U.heap.size ≤ j := (HTT.out.2.ge hj).1; omega)
        · obtain ⟨i, hi, rfl⟩ := List.mem_iff_getElem.1 hx
          exact .inr ((HTT.out.1.row i hi (by rw [HTT.out.1.lenq, ← HTT.out.1.len]; exact hi)).ge hj).1
      · exact .inr (by have : U2.heap.size ≤ j := (hO6.out.ge hj).1; omega)
      · exact .inl (.inr ⟨n, hn9', .inr (.inl hj)⟩)
      · obtain ⟨i, hi, rfl⟩ := List.mem_iff_getElem.1 hx
        exact .inr (by have : U2.heap.size ≤ j := ((hO6.row i hi (by rw [hO6.lenq, ← hO6.len]; exact hi)).ge hj).1; omega)
    · intro d hd
      have h1 := cell_set (i := n) (v := .slice Ae y ce) (F5.out.cell (R1.out.cell d hd).1 id)
      have h2 := cell_set (i := n) (v := .slice Ae y ce) (F5.out.cell (R1.out.cell d hd).2 id)
      rw [if_neg (show ¬ 9 + d = n by omega)] at h2
      by_cases e : d = n
      · subst e
        rw [if_pos rfl] at h1
        rw [if_pos rfl, if_pos rfl]
        rw [T1n] at h2
        exact ⟨h1, h2⟩
      · rw [if_neg e] at h1
        rw [if_neg e, if_neg e]
        exact ⟨h1, h2⟩
    · intro j
      rw [World.frozen?_setCell]
      exact (F5.out.frozen (p := ⟨s, j, none⟩) hsU2 id).trans (R1.out.free j)
    · rw [tmc_clr]
      rw [T1n, hvn] at ht6
      exact ht6
    · rw [List.length_map]
      exact ⟨hy.symm, by rw [hO6.len, hy], by rw [(H.out.n n hn9').2.2, hrow]⟩
    · rw [hrn, List.map_map, ← hy]
      apply List.ext_getElem
      · simp
      · intro i q1 q2
        simp
    · intro x hx j hj
      obtain ⟨i, hi, rfl⟩ := List.mem_iff_getElem.1 hx
      have h3 := (hO6.row i hi (by rw [hO6.lenq, ← hO6.len]; exact hi)).ge hj
      exact ⟨h3.1, h3.2, hO6.dA i hi j hj, fun hh => by have := ((H.out.t n hn9').ge hh).2; have : U2.heap.size ≤ j := h3.1; have : w.heap.size ≤ U.heap.size := hwU; omega⟩
    · intro j hj
      have hjw := ((H.out.t n hn9').ge hj).2
      refine ⟨fun e => (H.out.ds n hn9').2 (e ▸ hj), fun hh => by have : U2.heap.size ≤ j := (hO6.out.ge hh).1; omega, fun e he hne => ?_⟩
      have d1 := R1.out.dq e he n hn9' j
      have d2 := R1.out.dt n hn9' e he (Ne.symm hne) j
      have d3 := fun x hx hh => (((R1.out.rb e he x hx j hh).2.2.2) n hn9').2
      rw [T1n] at d1 d2 d3
      exact ⟨fun hh => (d1 hh).2 hj, d2 hj, fun x hx hh => d3 x hx hh hj⟩
    · intro e
      have hcan : vcan v n m = true := by
        unfold vcan
        rw [HG.out.1, HG.out.2, (tbl_iff (m : Int)).2 (by omega)]
        simp
        omega
      have hq0 : (vrow v n).map (·.2.2) = bs.map (·.2.2) := by rw [hrow]
      have hQe : rehash (m : Int).toNat (bs.map (·.2.2)) = Q := by rw [Int.toNat_natCast]; exact HQ.out
      rw [vget_grow hcan, hq0, hQe, vget_snoc]
      by_cases he : e = (m : Int)
      · rw [if_pos he, if_neg (by omega), he, HG.out.2]
        simp
      · rw [if_neg he]
        by_cases hen : e = (n : Int)
        · rw [if_pos hen, if_pos hen, HG.out.1]
          rfl
        · rw [if_neg hen, if_neg hen, if_neg (fun x => he x.symm)]
          cases vget v e <;> rfl
end Go.Proofs.Ytajcijocjbakbaa
