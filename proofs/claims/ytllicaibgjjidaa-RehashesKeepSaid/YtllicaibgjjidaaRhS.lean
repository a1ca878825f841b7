import Derived.Test.YtllicaibgjjidaaRhR
namespace Go.Proofs.Ytllicaibgjjidaa
open Go.RowKit

/-- One queue as a slice of queues. -/
theorem RdD.sub {w : World} {B n g off i : Nat} {hs : List Hd} {qs : List (List En)} {q : List En} (h : RdD w B (some ⟨g, off, none⟩) n hs qs) (hi : i < n) (hq : qs[i]? = some q) : ∃ hd, RdD w B (some ⟨g, off + i, none⟩) 1 [hd] [q] := by
  obtain ⟨g', off', Ai, ni, ci, q', e, hg, hc, hr, hq', -, -⟩ := h.at hi
  injection e with e
  injection e with e1 e2
  subst e1 e2
  rw [hq] at hq'
  injection hq' with hq'
  subst hq'
  refine ⟨⟨Ai, ni, ci⟩, ⟨rfl, fun _ => ⟨g, off + i, rfl, hg, fun j u hu => ?_⟩⟩, rfl, rfl, fun j hj _ => ?_⟩
  · have hj : j = 0 := by
      have := (List.getElem?_eq_some_iff.1 hu).1
      simp [hds] at this
      exact this
    subst hj
    simp [hds] at hu
    subst hu
    exact hc
  · have hj : j = 0 := by simpa using hj
    subst hj
    exact hr
def KPost (kl : List En) (lk : Nat) (w : World) (e : Ending) (w' : World) : Prop :=
  ∃ Ao co, e = .returned (.slice Ao lk co) ∧ Sl w' w.heap.size 3 Ao lk co (ens kl) ∧ Frm w w' fun _ => False
theorem keyed_is (A : Option Addr) (n c : Nat) (key : Int) (hs : List Hd) (qs : List (List En)) (w : World) (kl : List En) (lk : Nat) (hk : ky key qs.flatten = kl) (hlk : kl.length = lk) (hr : RdD w w.heap.size A n hs qs) (hn : (n : Int) ≤ 1000) (hl : ∀ q ∈ qs, q.length ≤ 1000) (htot : qs.flatten.length ≤ 1000) :
    Calls Try.prog 22 #[.slice A n c, .int .u32 key] w (KPost kl lk w) := by
  refine (keyed_any A n c key hs qs w hr hn hl htot).mono ?_
  rintro e w' ⟨Ao, m, co, rfl, hs, hf⟩
  rw [hk] at hs
  have : m = lk := by
    have := hs.len
    rw [ens_len, hlk] at this
    omega
  subst this
  exact ⟨Ao, co, rfl, hs, hf⟩
set_option maxRecDepth 100000 in
set_option maxHeartbeats 4000000 in
theorem keep_walk (A : Option Addr) (n c bits : Nat) (hs : List Hd) (qs : List (List En)) (w : World) (hr : RdD w w.heap.size A n hs qs) (hm : n ≤ maxLen) (hok : ∀ q ∈ qs, ∀ x ∈ q, EnOk x) (hbits : (bits : Int) ≤ 255) :
    Calls Try.prog 4 #[.slice A n c, .int .u8 (bits : Nat)] w fun e w' => e = .returned (.bool true) ∧ Frm w w' fun _ => False := by
  have HFEW := Lib.hid (few_any A n c hs qs w hr hm)
  have HR := Lib.hid hr
  have HQL := Lib.hid hr.lenq
  have HOK := Lib.hid hok
  obtain ⟨nb, hnb⟩ : ∃ nb, 2 + bits % 7 = nb := ⟨_, rfl⟩
  have h2 : 2 ≤ nb := by omega
  have h8 : nb ≤ 8 := by omega
  have hnbi : (2 : Int) + (bits : Int) % 7 = (nb : Int) := by omega
  obtain ⟨z, hz⟩ : ∃ z, 2 ^ nb = z := ⟨_, rfl⟩
  have hz4 : 4 ≤ z := by rw [← hz]; exact Nat.pow_le_pow_right (n := 2) (by decide) h2
  have hz256 : z ≤ 256 := by rw [← hz]; exact Nat.pow_le_pow_right (n := 2) (by decide) h8
  have HZ := Lib.hid hz
  have b0 : (0 : Int) ≤ (bits : Int) := by omega
  clear hr hm hok hz hnb
  go_enter Try.func4, Try.ntmps4
  go_wp2_with fail
  refine HFEW.out.mono ?_
  rintro e w' ⟨fb, rfl, hfb, rfl⟩
  cases fb with
  | false =>
    clear hfb
    go_wp2_with (go_at_call 11; refine (lives9 _).mono ?_; rintro e w2 ⟨rfl, hf⟩; have F := Lib.hid hf)
    go_ret
    exact ⟨rfl, F.out⟩
  | true =>
    obtain ⟨h300, h60, h600⟩ := hfb rfl
    have H60 : Hid (∀ q ∈ qs, q.length ≤ 1000) := fun q hq => by have := h60 q hq; omega
    have n1 : (n : Int) ≤ 1000 := by omega
    have H600 := Lib.hid (show qs.flatten.length ≤ 1000 by omega)
    have hRe := fun V (h : RdD V V.heap.size A n hs qs) => rehash_in A n c nb hs qs V h2 h8 h n1 H60.out HOK.out H600.out
    obtain ⟨ra, hra⟩ : ∃ ra, rehash nb qs = ra := ⟨_, rfl⟩
    rw [hra, HZ.out] at hRe
    have HRA := Lib.hid hra
    have HROW : Hid (∀ q ∈ ra, q.length ≤ 1000) := fun q hq => by
      rw [← hra] at hq
      obtain ⟨i, _, rfl⟩ := List.mem_map.1 hq
      have := bk_len nb i qs.flatten
      omega
    have HOKA : Hid (∀ q ∈ ra, ∀ x ∈ q, EnOk x) := fun q hq x hx => by
      rw [← hra] at hq
      obtain ⟨i, _, rfl⟩ := List.mem_map.1 hq
      obtain ⟨q', hq', hx'⟩ := List.mem_flatten.1 (List.mem_filter.1 hx).1
      exact HOK.out q' hq' x hx'
    have HPLC : Hid (plc (nb : Int) ra = true) := by rw [← hra]; exact plc_rehash nb h2 h8 _
    have HFL : Hid (ra.flatten.length = qs.flatten.length) := by rw [← hra]; exact bks_flen nb h2 h8 _
    have HFL2 : Hid (ra.flatten.length ≤ 1000) := by show _; rw [HFL.out]; exact H600.out
    have HRE := Lib.hid hRe
    obtain ⟨tot, htot⟩ : ∃ t, qs.flatten.length = t := ⟨_, rfl⟩
    have hMA := fun V A c hs (h : RdD V V.heap.size A z hs ra) => many_any A z c hs ra V h (by omega) HFL2.out
    have hML := fun V (h : RdD V V.heap.size A n hs qs) => many_any A n c hs qs V h n1 H600.out
    rw [HFL.out, htot] at hMA
    rw [htot] at hML
    have HMA := Lib.hid hMA
    have HML := Lib.hid hML
    clear hfb h60 h600 h300 hRe hra htot hMA hML
    go_wp2_with (first
      | (go_at_call 13; refine (HRE.out _ HR.out).mono ?_; rintro e w2 ⟨g, hsa, rfl, ho, -, hf⟩; have SA := Lib.hid ho; have F2 := Lib.hid hf; clear ho hf)
      | (go_at_call 16; refine (placed_any (some ⟨g, 0, none⟩) z z nb hsa ra _ SA.out.rd HROW.out HOKA.out).mono ?_; rw [HPLC.out]; rintro e w3 ⟨rfl, hf⟩; have F3 := Lib.hid (F2.out.then_ hf); have SA3 := Lib.hid (SA.out.new_ hf); clear hf)
      | (go_at_call 19; with_reducible refine (HMA.out _ _ _ _ SA3.out.rd).mono ?_; rintro e w4 ⟨rfl, rfl⟩)
      | (go_at_call 19; with_reducible refine (HML.out _ (HR.out.new_ F3.out)).mono ?_; rintro e w4 ⟨rfl, rfl⟩))
    go_loopw [7] (fun i wr => ∃ k : Nat, i = .int .i64 k ∧ k ≤ n ∧ Frm w3 wr fun _ => False) (fun i _ => n - (intOf i).toNat)
    case atStart => exact ⟨0, rfl, Nat.zero_le _, Frm.refl _ _⟩
    case round =>
      obtain ⟨k, rfl, hkn, hG⟩ := hrel
      have G := Lib.hid hG
      clear hG
      by_cases hlk : k < n
      · have k0 : (0 : Int) ≤ (k : Int) := by omega
        have k1 : (k : Int) < (n : Int) := by omega
        obtain ⟨gl, ol, Ak, mk, ck, q, rfl, -, hh, -, hq, hhd, hmk⟩ := (HR.out.new_ (F3.out.then_ G.out)).at hlk
        have hql := H60.out q (List.mem_of_getElem? hq)
        have m1 : (mk : Int) ≤ 1000 := by omega
        have HQ := Lib.hid hq
        have HHD := Lib.hid hhd
        have HMK := Lib.hid hmk
        clear hq hhd hmk hql
        go_wp2_with fail
        go_loopw [8] (fun i wr => ∃ j : Nat, i = .int .i64 j ∧ j ≤ mk ∧ Frm w3 wr fun _ => False) (fun i _ => mk - (intOf i).toNat)
        case atStart => exact ⟨0, rfl, Nat.zero_le _, G.out⟩
        case round =>
          obtain ⟨j, rfl, hjn, hG⟩ := hrel
          have G := Lib.hid hG
          clear hG
          have hR1 := HR.out.new_ (F3.out.then_ G.out)
          have hrk := hR1.rowAt HHD.out HQ.out
          have hhw : wr.cell? ⟨gl, ol + k, none⟩ = some (.slice Ak mk ck) := by
            obtain ⟨g', off', Ak', mk', ck', q', e1, -, hhw, -, -, hhd', -⟩ := hR1.at hlk
            injection e1 with e1
            injection e1 with e1 e2
            subst e1 e2
            rw [HHD.out] at hhd'
            injection hhd' with h
            injection h with h1 h2 h3
            subst h1 h2 h3
            exact hhw
          by_cases hjm : j < mk
          · have hjq : j < q.length := by have := HMK.out; omega
            obtain ⟨x, hx⟩ : ∃ x, q[j] = x := ⟨_, rfl⟩
            have hqx : q[j]? = some x := by rw [List.getElem?_eq_getElem hjq, hx]
            have hxok := HOK.out q (List.mem_of_getElem? HQ.out) x (List.mem_of_getElem? hqx)
            obtain ⟨g2, off2, hA2, -, hcell⟩ := (Rd.ens hrk).2 (by show 0 < mk; omega)
            have hA2 : Ak = some ⟨g2, off2, none⟩ := hA2
            subst hA2
            obtain ⟨-, p1, -⟩ := hcell j hjq
            rw [hx] at p1
            obtain ⟨y, hy⟩ : ∃ y, hk nb x = y := ⟨_, rfl⟩
            have hyz : y < z := by rw [← hy, ← HZ.out]; exact hs_lt _ _ h2 h8
            have HASH := Lib.hid (fun V => hash_en x hxok nb h2 h8 V)
            rw [hy] at HASH
            obtain ⟨kl, hkl⟩ : ∃ kl, ky x.k qs.flatten = kl := ⟨_, rfl⟩
            obtain ⟨lk, hll⟩ : ∃ lk, kl.length = lk := ⟨_, rfl⟩
            have hka : ky x.k ra.flatten = kl := by rw [← HRA.out]; exact (ky_bks nb h2 h8 _ _).trans hkl
            have hraL : y < ra.length := by rw [SA3.out.lenq]; exact hyz
            have hrow : ra[y]? = some (bk nb y qs.flatten) := by
              rw [← HRA.out]
              have h1 : y < (bks nb qs.flatten).length := by rw [bks_len, HZ.out]; exact hyz
              show (bks nb qs.flatten)[y]? = _
              rw [List.getElem?_eq_getElem h1, bks_at]
            have hks : ky x.k ([bk nb y qs.flatten] : List (List En)).flatten = kl := by
              rw [List.flatten_cons, List.flatten_nil, List.append_nil, ← hy]
              exact (ky_bk nb qs.flatten x.k).trans hkl
            have hlk1 : (lk : Int) ≤ 1000 := by
              have h1 := ky_len x.k qs.flatten
              have h3 := H600.out
              rw [hkl, hll] at h1
              omega
            obtain ⟨hd, hsub⟩ := SA3.out.rd.sub hyz hrow
            rw [Nat.zero_add] at hsub
            have hbkl := bk_len nb y qs.flatten
            have hKA := fun V (h : RdD V V.heap.size (some ⟨g, 0, none⟩) z hsa ra) => keyed_is (some ⟨g, 0, none⟩) z z x.k hsa ra V kl lk hka hll h (by omega) HROW.out HFL2.out
            have hKL := fun V (h : RdD V V.heap.size (some ⟨gl, ol, none⟩) n hs qs) => keyed_is (some ⟨gl, ol, none⟩) n c x.k hs qs V kl lk hkl hll h n1 H60.out H600.out
            have hKS := fun V co (h : RdD V V.heap.size (some ⟨g, y, none⟩) 1 [hd] [bk nb y qs.flatten]) => keyed_is (some ⟨g, y, none⟩) 1 co x.k [hd] [bk nb y qs.flatten] V kl lk hks hll h (by decide) (by have := H600.out; simp; omega) (by have := H600.out; simp; omega)
            have HKA := Lib.hid hKA
            have HKL := Lib.hid hKL
            have HKS := Lib.hid hKS
            have HSUB := Lib.hid hsub
            have j0 : (0 : Int) ≤ (j : Int) := by omega
            have j1 : (j : Int) < (mk : Int) := by omega
            have y0 : (0 : Int) ≤ (y : Int) := by omega
            have y1 : (y : Int) < (z : Int) := by omega
            clear hcell hrk hx hqx hy hjq hKA hKL hKS hkl hll hka hraL hrow hks hsub hbkl hR1
            go_wp2_with (first
              | (go_at_call 20; refine (HASH.out _).mono ?_; rintro e w' ⟨rfl, rfl⟩))
            refine (HKA.out _ (SA3.out.new_ G.out).rd).mono ?_
            rintro e v1 ⟨A1, c1, rfl, hs1, hf1⟩
            have G1 := Lib.hid (G.out.then_ hf1)
            have K1 := Lib.hid hs1
            clear hs1 hf1
            go_wp2_with fail
            refine (HKL.out _ (HR.out.new_ (F3.out.then_ G1.out))).mono ?_
            rintro e v2 ⟨A2, c2, rfl, hs2, hf2⟩
            have G2 := Lib.hid (G1.out.then_ hf2)
            have K2 := Lib.hid hs2
            replace K1 := Lib.hid (K1.out.new_ hf2)
            clear hs2 hf2
            go_wp2_with fail
            refine (alike_same A1 A2 lk c1 c2 kl v2 K1.out.rd K2.out.rd hlk1).mono ?_
            rintro e v3 ⟨rfl, hf3⟩
            have G3 := Lib.hid (G2.out.then_ hf3)
            clear hf3 K1 K2
            go_wp2_with fail
            refine (HKS.out _ _ (HSUB.out.new_ G3.out)).mono ?_
            rintro e v4 ⟨A4, c4, rfl, hs4, hf4⟩
            have G4 := Lib.hid (G3.out.then_ hf4)
            have K4 := Lib.hid hs4
            clear hs4 hf4
            go_wp2_with fail
            refine (HKL.out _ (HR.out.new_ (F3.out.then_ G4.out))).mono ?_
            rintro e v5 ⟨A5, c5, rfl, hs5, hf5⟩
            have G5 := Lib.hid (G4.out.then_ hf5)
            have K5 := Lib.hid hs5
            replace K4 := Lib.hid (K4.out.new_ hf5)
            clear hs5 hf5
            go_wp2_with fail
            refine (alike_same A4 A5 lk c4 c5 kl v5 K4.out.rd K5.out.rd hlk1).mono ?_
            rintro e v6 ⟨rfl, hf6⟩
            have G6 := Lib.hid (G5.out.then_ hf6)
            clear hf6 K4 K5
            go_wp2_with fail
            go_roundw
            case rel => exact ⟨j + 1, by go_num, by omega, G6.out⟩
            case measure => simp [intOf]; omega
          · obtain rfl : j = mk := by omega
            clear hrk hR1
            go_wp2_with fail
            go_roundw
            case rel => exact ⟨k + 1, by go_num, by omega, G.out⟩
            case measure => simp [intOf]; omega
      · obtain rfl : k = n := by omega
        go_wp2_with (go_at_call 11; refine (lives9 _).mono ?_; rintro e w10 ⟨rfl, hf⟩; have F10 := Lib.hid ((F3.out.then_ G.out).then_ hf); clear hf)
        go_ret
        exact ⟨rfl, F10.out⟩
end Go.Proofs.Ytllicaibgjjidaa
