import Derived.Test.YtllicaibgjjidaaRhN
namespace Go.Proofs.Ytllicaibgjjidaa
open Go.RowKit

/-- What is rehashed, by whatever bits. -/
def rh (b : Int) (qs : List (List En)) : List (List En) := if tbl b then rehash b.toNat qs else []
theorem rh_row {b : Int} {qs : List (List En)} {q : List En} (h : q ∈ rh b qs) : q.length ≤ qs.flatten.length := by
  unfold rh at h
  split at h
  · obtain ⟨i, _, rfl⟩ := List.mem_map.1 h
    exact bk_len _ _ _
  · cases h
theorem RdD.nil (w : World) (B : Nat) (A : Option Addr) : RdD w B A 0 [] [] := ⟨Rd.nil _ _ _ _, rfl, rfl, fun i hi => by simp at hi⟩
theorem rehash_all (A : Option Addr) (n c z : Nat) (b : Int) (hs : List Hd) (qs : List (List En)) (w : World) (hz : sz b = z) (hr : RdD w w.heap.size A n hs qs) (hn : (n : Int) ≤ 1000) (hl : ∀ q ∈ qs, q.length ≤ 1000) (hok : ∀ q ∈ qs, ∀ x ∈ q, EnOk x) (htot : qs.flatten.length ≤ 1000) :
    Calls Try.prog 13 #[.slice A n c, .int .i64 b] w fun e w' => ∃ A' hs', e = .returned (.slice A' z z) ∧ OwD w' w.heap.size w.heap.size A' z z hs' (rh b qs) ∧ (∀ h ∈ hs', h.n = h.c) ∧ Frm w w' fun _ => False := by
  subst hz
  cases hb : tbl b with
  | true =>
    have h1 := (tbl_iff b).1 hb
    have e : b = ((b.toNat : Nat) : Int) := by omega
    have e2 : sz b = 2 ^ b.toNat := by unfold sz; rw [if_pos hb]
    have e3 : rh b qs = rehash b.toNat qs := by unfold rh; rw [if_pos hb]
    have := rehash_in A n c b.toNat hs qs w (by omega) (by omega) hr hn hl hok htot
    rw [← e] at this
    rw [e2, e3]
    exact this.mono fun e w' ⟨g, hs', he, ho, hc, hf⟩ => ⟨_, hs', he, ho, hc, hf⟩
  | false =>
    have e2 : sz b = 0 := by unfold sz; rw [hb]; rfl
    have e3 : rh b qs = [] := by unfold rh; rw [hb]; rfl
    rw [e2, e3]
    exact (rehash_out A n c b hb w).mono fun e w' ⟨he, hf⟩ => ⟨none, [], he, OwD.nil _ _ _, (fun h hh => by cases hh), hf⟩
theorem rrehash_all (A : Option Addr) (n c z : Nat) (b : Int) (hs : List Hd) (qs : List (List En)) (w : World) (hz : sz b = z) (hr : RdD w w.heap.size A n hs qs) (hn : (n : Int) ≤ 1000) (hl : ∀ q ∈ qs, q.length ≤ 1000) (hok : ∀ q ∈ qs, ∀ x ∈ q, EnOk x) (htot : qs.flatten.length ≤ 1000) :
    Calls Try.prog 15 #[.slice A n c, .int .i64 b] w fun e w' => ∃ A' co hs', e = .returned (.slice A' z co) ∧ OwD w' w.heap.size w.heap.size A' z co hs' (rh b qs) ∧ Frm w w' fun _ => False := by
  subst hz
  cases hb : tbl b with
  | true =>
    have h1 := (tbl_iff b).1 hb
    have e : b = ((b.toNat : Nat) : Int) := by omega
    have e2 : sz b = 2 ^ b.toNat := by unfold sz; rw [if_pos hb]
    have e3 : rh b qs = rehash b.toNat qs := by unfold rh; rw [if_pos hb]
    have := rrehash_in A n c b.toNat hs qs w (by omega) (by omega) hr hn hl hok htot
    rw [← e] at this
    rw [e2, e3]
    exact this
  | false =>
    have e2 : sz b = 0 := by unfold sz; rw [hb]; rfl
    have e3 : rh b qs = [] := by unfold rh; rw [hb]; rfl
    rw [e2, e3]
    exact (rrehash_out A n c b hb w).mono fun e w' ⟨he, hf⟩ => ⟨none, 0, [], he, OwD.nil _ _ _, by subst hf; exact Frm.refl _ _⟩
set_option maxRecDepth 100000 in
set_option maxHeartbeats 4000000 in
theorem any_walk (A : Option Addr) (n c : Nat) (b : Int) (hs : List Hd) (qs : List (List En)) (w : World) (hr : RdD w w.heap.size A n hs qs) (hm : n ≤ maxLen) (hok : ∀ q ∈ qs, ∀ x ∈ q, EnOk x) :
    Calls Try.prog 3 #[.slice A n c, .int .i64 b] w fun e w' => e = .returned (.bool true) ∧ Frm w w' fun _ => False := by
  have HFEW := Lib.hid (few_any A n c hs qs w hr hm)
  have HR := Lib.hid hr
  have HOK := Lib.hid hok
  obtain ⟨z, hz⟩ : ∃ z, sz b = z := ⟨_, rfl⟩
  have hz256 : z ≤ 256 := by rw [← hz]; exact sz_le b
  have HZ := Lib.hid hz
  obtain ⟨pl, hpl⟩ : ∃ p, plc b qs = p := ⟨_, rfl⟩
  have HPL := Lib.hid hpl
  clear hr hm hok hz hpl
  go_enter Try.func3, Try.ntmps3
  go_wp2_with fail
  refine HFEW.out.mono ?_
  rintro e w' ⟨fb, rfl, hfb, rfl⟩
  cases fb with
  | false =>
    clear hfb
    go_wp2_with (go_at_call 11; refine (lives9 _).mono ?_; rintro e w2 ⟨rfl, hf⟩; have F := Lib.hid hf)
    go_ret
    exact ⟨rfl, F.out⟩
  | true =>
    obtain ⟨h300, h60, h600⟩ := hfb rfl
    have H60 : Hid (∀ q ∈ qs, q.length ≤ 1000) := fun q hq => by have := h60 q hq; omega
    have hrow : ∀ q ∈ rh b qs, q.length ≤ 1000 := fun q hq => by have := rh_row hq; omega
    have H600 := Lib.hid (show qs.flatten.length ≤ 1000 by omega)
    have n1 : (n : Int) ≤ 1000 := by omega
    have hRe := fun V (h : RdD V V.heap.size A n hs qs) => rehash_all A n c z b hs qs V HZ.out h n1 H60.out HOK.out H600.out
    have hRr := fun V Am cm hsm (h : RdD V V.heap.size Am n hsm qs) => rrehash_all Am n cm z b hsm qs V HZ.out h n1 H60.out HOK.out H600.out
    obtain ⟨ra, hra⟩ : ∃ ra, rh b qs = ra := ⟨_, rfl⟩
    rw [hra] at hrow hRe hRr
    have HROW := Lib.hid hrow
    have HRE := Lib.hid hRe
    have HRR := Lib.hid hRr
    clear hfb h60 h600 h300 hrow hRe hRr hra
    cases pl
    all_goals
      go_wp2_with (first
        | (go_at_call 12; refine (others9 A n c hs qs w HR.out n1 H60.out).mono ?_; rintro e w1 ⟨Am, cm, hsm, rfl, ho, hf⟩; have M := Lib.hid ho; have F1 := Lib.hid hf; clear ho hf)
        | (go_at_call 13; refine (HRE.out _ (HR.out.new_ F1.out)).mono ?_; rintro e w2 ⟨Aa, hsa, rfl, ho, hc, hf⟩; have SA := Lib.hid ho; have HC := Lib.hid hc; have F2 := Lib.hid hf; have M2 := Lib.hid (M.out.new_ hf); clear ho hf hc)
        | (go_at_call 15; refine (HRR.out _ _ _ _ M2.out.rd).mono ?_; rintro e w3 ⟨Ar, cr, hsr, rfl, ho, hf⟩; have SR := Lib.hid ho; have F3 := Lib.hid hf; have SA3 := Lib.hid (SA.out.new_ hf); have M3 := Lib.hid (M2.out.new_ hf); clear ho hf)
        | (go_at_call 14; refine (same9 Aa Ar z z cr hsa hsr ra _ SA3.out.rd SR.out.rd (by omega) HROW.out).mono ?_; rintro e w4 ⟨rfl, hf⟩; have F4 := Lib.hid (F3.out.then_ hf); have SA4 := Lib.hid (SA3.out.new_ hf); have M4 := Lib.hid (M3.out.new_ hf); clear hf)
        | (go_at_call 16; refine (placed_any A n c b hs qs _ (HR.out.new_ ((F1.out.then_ F2.out).then_ F4.out)) H60.out HOK.out).mono ?_; rw [HPL.out]; rintro e w5 ⟨rfl, hf⟩; have F5 := Lib.hid (F4.out.then_ hf); have SA5 := Lib.hid (SA4.out.new_ hf); have M5 := Lib.hid (M4.out.new_ hf); clear hf)
        | (go_at_call 17; refine (rplaced_any Am n cm b hsm qs _ M5.out.rd H60.out HOK.out).mono ?_; rw [HPL.out]; rintro e w6 ⟨rfl, rfl⟩))
      go_loopw [7] (fun i wr => ∃ k : Nat, i = .int .i64 k ∧ k ≤ z ∧ Sl wr w1.heap.size 1 Aa z z (hds hsa) ∧ (∀ (j : Nat) (hj : j < hsa.length) (hq : j < ra.length), k ≤ j → Sl wr w1.heap.size 3 hsa[j].A hsa[j].n hsa[j].c (ens ra[j])) ∧ Frm w1 wr fun _ => False) (fun i _ => z - (intOf i).toNat)
      case atStart => exact ⟨0, rfl, Nat.zero_le _, SA5.out.out, (fun j hj hq _ => SA5.out.row j hj hq), F2.out.then_ F5.out⟩
      case round =>
        obtain ⟨k, rfl, hkz, hout, hrows, hF⟩ := hrel
        by_cases hlk : k < z
        · have hk1 : k < hsa.length := by rw [SA5.out.len]; exact hlk
          have hk2 : k < ra.length := by rw [SA5.out.lenq]; exact hlk
          have hrow := hrows k hk1 hk2 (Nat.le_refl _)
          have hcl := HC.out hsa[k] (List.getElem_mem hk1)
          have hlen := HROW.out _ (List.getElem_mem hk2)
          have hml : (hsa[k].n : Int) ≤ 1000 := by rw [(Rd.ens hrow.rd).1]; omega
          obtain ⟨⟨Ak, mk, ck⟩, hhd⟩ : ∃ h, hsa[k] = h := ⟨_, rfl⟩
          rw [hhd] at hrow hcl hml
          obtain rfl : mk = ck := hcl
          obtain ⟨g, off, rfl, -, hcell⟩ := hout.rd.2 (by unfold hds; rw [List.length_map]; omega)
          have hc := hcell k (.slice Ak mk mk) (by unfold hds; rw [List.getElem?_map, List.getElem?_eq_getElem hk1, hhd]; rfl)
          have hc' := Grown.cell hc
          have m1 : (mk : Int) ≤ 1000 := hml
          have k0 : (0 : Int) ≤ (k : Int) := by omega
          have k1 : (k : Int) < (z : Int) := by omega
          have HOUT := Lib.hid hout
          have HROWS := Lib.hid hrows
          have HROW1 := Lib.hid hrow
          have HF := Lib.hid hF
          have HHD := Lib.hid hhd
          clear hcell hout hrows hrow hF hhd hml hlen
          go_wp2_with fail
          refine wp_region_grown wr (Frm.refl _ _) (by kernel_rfl) (by kernel_rfl) ?_
          repeat (go_big_quiet_step (fail))
          refine wpQuiet_nil ?_
          intro wq hq
          have hcq := hq.cell hc id
          have HQ := Lib.hid hq
          clear hq hc hc'
          go_wp2_with (go_at_call 18; refine (spoil_any w1.heap.size Ak mk mk _ _ (HROW1.out.new_ HQ.out) m1).mono ?_; rintro e w8 ⟨rfl, hf8⟩; have F8 := Lib.hid hf8; clear hf8)
          go_roundw
          case rel =>
            refine ⟨k + 1, by go_num, by omega, (HOUT.out.new_ HQ.out).frm F8.out (fun j hj hj' => ?_), (fun j hj hq hkj => ((HROWS.out j hj hq (by omega)).new_ HQ.out).frm F8.out (fun i hi hi' => ?_)), (HF.out.then_ HQ.out).fresh F8.out (fun j hj => (HROW1.out.ge hj).1)⟩
            · have := SA5.out.dA k hk1 j
              rw [HHD.out] at this
              exact this hj' hj
            · have := SA5.out.dj k j hk1 hj (by omega) i
              rw [HHD.out] at this
              exact this hi' hi
          case measure => simp [intOf]; omega
        · have HF := Lib.hid hF
          have hk : k = z := by omega
          have e1 : decide ((k : Int) < (z : Int)) = false := by simp; omega
          clear hF hout hrows
          go_wp2_with (first
            | (go_at_call 14; refine (same9 A Am n c cm hs hsm qs _ (HR.out.new_ (F1.out.then_ HF.out)) (M.out.new_ HF.out).rd n1 H60.out).mono ?_; rintro e w9 ⟨rfl, hf⟩; have F9 := Lib.hid ((F1.out.then_ HF.out).then_ hf); clear hf)
            | (go_at_call 11; refine (lives9 _).mono ?_; rintro e w10 ⟨rfl, hf⟩; have F10 := Lib.hid (F9.out.then_ hf); clear hf))
          go_ret
          exact ⟨rfl, F10.out⟩
end Go.Proofs.Ytllicaibgjjidaa
