import Derived.Test.YtllicaibgjjidaaRhL
namespace Go.Proofs.Ytllicaibgjjidaa
open Go.RowKit

theorem take_pos (qs : List (List En)) (i j : Nat) (q : List En) (x : En) (hq : qs[i]? = some q) (hx : q[j]? = some x) : (flat qs).take (pos qs i + (j + 1)) = (flat qs).take (pos qs i + j) ++ [(i, x)] := by
  obtain ⟨hi, rfl⟩ := List.getElem?_eq_some_iff.1 hq
  obtain ⟨hj, rfl⟩ := List.getElem?_eq_some_iff.1 hx
  have h := flat_at qs i j hi hj
  obtain ⟨h1, h2⟩ := List.getElem?_eq_some_iff.1 h
  rw [← Nat.add_assoc, List.take_succ_eq_append_getElem h1, h2]
set_option maxRecDepth 100000 in
set_option maxHeartbeats 4000000 in
theorem rplaced_in (A : Option Addr) (n c nb : Nat) (hs : List Hd) (qs : List (List En)) (w : World) (h2 : 2 ≤ nb) (h8 : nb ≤ 8) (hr : RdD w w.heap.size A n hs qs) (hn : n = 2 ^ nb) (hl : ∀ q ∈ qs, q.length ≤ 1000) (hok : ∀ q ∈ qs, ∀ x ∈ q, EnOk x) :
    Calls Try.prog 17 #[.slice A n c, .int .i64 nb] w fun e w' => e = .returned (.bool ((flat qs).all (okp nb))) ∧ w = w' := by
  have HSZ : ∀ V, Calls Try.prog 36 #[.int .i64 nb] V fun e w' => e = .returned (.int .i64 (n : Nat)) ∧ V = w' := fun V => by rw [hn, ← sz_pow nb h2 h8]; exact rsize_any _ _
  have hz4 : 4 ≤ n := by rw [hn]; exact Nat.pow_le_pow_right (n := 2) (by decide) h2
  have hz256 : n ≤ 256 := by rw [hn]; exact Nat.pow_le_pow_right (n := 2) (by decide) h8
  have z0 : ((n : Int) == 0) = false := by simp; omega
  have HSZ := Lib.hid HSZ
  have HR := Lib.hid hr
  have HQL := Lib.hid hr.lenq
  have HL := Lib.hid hl
  have HOK := Lib.hid hok
  obtain ⟨r, hr'⟩ : ∃ r, (flat qs).all (okp nb) = r := ⟨_, rfl⟩
  rw [hr']
  have HRES := Lib.hid hr'
  clear hr hn hl hok hr'
  go_enter Try.func17, Try.ntmps17
  go_wp2_with (go_at_call 36; refine (HSZ.out _).mono ?_; rintro e w' ⟨rfl, rfl⟩)
  go_loopw [5] (fun i wr => ∃ k : Nat, i = .int .i64 k ∧ k ≤ n ∧ ((flat qs).take (pos qs k)).all (okp nb) = true ∧ w = wr) (fun i _ => n - (intOf i).toNat)
  case atStart => exact ⟨0, rfl, Nat.zero_le _, rfl, rfl⟩
  case round =>
    obtain ⟨k, rfl, hkn, hall, rfl⟩ := hrel
    have HA := Lib.hid hall
    clear hall
    by_cases hlk : k < n
    · have k0 : (0 : Int) ≤ (k : Int) := by omega
      have k1 : (k : Int) < (n : Int) := by omega
      obtain ⟨g, off, Ak, mk, ck, q, rfl, -, hh, hrk, hq, -, hmk⟩ := HR.out.at hlk
      have hkq : k < qs.length := by rw [HQL.out]; exact hlk
      have hqe : qs[k] = q := by rw [List.getElem?_eq_getElem hkq] at hq; injection hq
      have hps := pos_succ qs k hkq
      rw [hqe] at hps
      have hql := HL.out q (List.mem_of_getElem? hq)
      have m1 : (mk : Int) ≤ 1000 := by omega
      have HQ := Lib.hid hq
      have HPS := Lib.hid hps
      have HMK := Lib.hid hmk
      have HRK := Lib.hid hrk
      clear hq hps hqe hmk hrk
      go_wp2_with fail
      go_loopw [6] (fun i wr => ∃ j : Nat, i = .int .i64 j ∧ j ≤ mk ∧ ((flat qs).take (pos qs k + j)).all (okp nb) = true ∧ w = wr) (fun i _ => mk - (intOf i).toNat)
      case atStart => exact ⟨0, rfl, Nat.zero_le _, HA.out, rfl⟩
      case round =>
        obtain ⟨j, rfl, hjn, hall, rfl⟩ := hrel
        have HB := Lib.hid hall
        clear hall
        by_cases hjm : j < mk
        · have hjq : j < q.length := by have := HMK.out; omega
          obtain ⟨x, hx⟩ : ∃ x, q[j] = x := ⟨_, rfl⟩
          have hqx : q[j]? = some x := by rw [List.getElem?_eq_getElem hjq, hx]
          have hxok := HOK.out q (List.mem_of_getElem? HQ.out) x (List.mem_of_getElem? hqx)
          have htp := take_pos qs k j q x HQ.out hqx
          have hmem : (k, x) ∈ flat qs := by
            have : (k, x) ∈ (flat qs).take (pos qs k + (j + 1)) := by rw [htp]; simp
            exact List.mem_of_mem_take this
          obtain ⟨g2, off2, hA2, -, hcell⟩ := (Rd.ens HRK.out).2 (by omega)
          subst hA2
          obtain ⟨-, p1, -⟩ := hcell j hjq
          rw [hx] at p1
          obtain ⟨y, hy⟩ : ∃ y, hk nb x = y := ⟨_, rfl⟩
          have HTP := Lib.hid htp
          have HME := Lib.hid hmem
          have HASH := Lib.hid (fun V => rhash_en x hxok nb h2 h8 V)
          rw [hy] at HASH
          have HY := Lib.hid hy
          have j0 : (0 : Int) ≤ (j : Int) := by omega
          have j1 : (j : Int) < (mk : Int) := by omega
          have y0 : (0 : Int) ≤ (y : Int) := by omega
          clear hcell hx hqx htp hmem hy hjq
          by_cases hyk : y = k
          · have e1 : ((y : Int) != (k : Int)) = false := by simp; omega
            go_wp2_with (go_at_call 37; refine (HASH.out _).mono ?_; rintro e w' ⟨rfl, rfl⟩)
            go_roundw
            case rel => exact ⟨j + 1, by go_num, by omega, by rw [HTP.out, List.all_append, HB.out]; simp [okp, HY.out, hyk], trivial⟩
            case measure => simp [intOf]; omega
          · have e1 : ((y : Int) != (k : Int)) = true := by simp; omega
            go_wp2_with (go_at_call 37; refine (HASH.out _).mono ?_; rintro e w' ⟨rfl, rfl⟩)
            go_ret
            refine ⟨?_, rfl⟩
            have : r = false := by
              rw [← HRES.out, ← Bool.not_eq_true, List.all_eq_true]
              intro hc
              have := hc _ HME.out
              simp [okp, HY.out, hyk] at this
            rw [this]
            rfl
        · obtain rfl : j = mk := by omega
          go_wp2_with fail
          go_roundw
          case rel => exact ⟨k + 1, by go_num, by omega, by rw [HPS.out, ← HMK.out]; exact HB.out, trivial⟩
          case measure => simp [intOf]; omega
    · obtain rfl : k = n := by omega
      have hall : r = true := by
        have h1 := HA.out
        rw [← HQL.out, pos_all, List.take_length, HRES.out] at h1
        exact h1
      subst hall
      go_wp2_with fail
      go_ret
      exact ⟨rfl, rfl⟩
theorem rplaced_no (A : Option Addr) (n c z : Nat) (b : Int) (w : World) (hs : sz b = z) (h : z = 0 ∨ n ≠ z) :
    Calls Try.prog 17 #[.slice A n c, .int .i64 b] w fun e w' => e = .returned (.bool false) ∧ w = w' := by
  have HSZ := Lib.hid (fun V => by have := rsize_any b V; rw [hs] at this; exact this)
  clear hs
  have z0 : (0 : Int) ≤ (z : Int) := by omega
  by_cases hz : n = z
  · obtain rfl : z = 0 := h.resolve_right (fun h => h hz)
    subst hz
    clear h
    go_enter Try.func17, Try.ntmps17
    go_wp2_with (go_at_call 36; refine (HSZ.out _).mono ?_; rintro e w' ⟨rfl, rfl⟩)
    go_ret
    exact ⟨rfl, rfl⟩
  · have e2 : ((n : Int) != (z : Int)) = true := by simp; omega
    clear h hz
    go_enter Try.func17, Try.ntmps17
    go_wp2_with (go_at_call 36; refine (HSZ.out _).mono ?_; rintro e w' ⟨rfl, rfl⟩)
    go_ret
    exact ⟨rfl, rfl⟩
theorem rplaced_any (A : Option Addr) (n c : Nat) (b : Int) (hs : List Hd) (qs : List (List En)) (w : World) (hr : RdD w w.heap.size A n hs qs) (hl : ∀ q ∈ qs, q.length ≤ 1000) (hok : ∀ q ∈ qs, ∀ x ∈ q, EnOk x) :
    Calls Try.prog 17 #[.slice A n c, .int .i64 b] w fun e w' => e = .returned (.bool (plc b qs)) ∧ w = w' := by
  cases hb : tbl b with
  | false =>
    have e : plc b qs = false := by unfold plc; rw [hb]; rfl
    rw [e]
    refine rplaced_no A n c 0 b w (by unfold sz; rw [hb]; rfl) (.inl rfl)
  | true =>
    have h1 := (tbl_iff b).1 hb
    have hz : sz b = 2 ^ b.toNat := by unfold sz; rw [hb]; rfl
    by_cases hn : n = 2 ^ b.toNat
    · have := rplaced_in A n c b.toNat hs qs w (by omega) (by omega) hr hn hl hok
      rw [Int.toNat_of_nonneg (by omega)] at this
      have e : plc b qs = (flat qs).all (okp b.toNat) := by unfold plc; rw [hb, hz, hr.lenq, hn]; simp
      rw [e]
      exact this
    · have e : plc b qs = false := by unfold plc; rw [hz, hr.lenq]; simp [hn]
      rw [e]
      exact rplaced_no A n c _ b w hz (.inr hn)
end Go.Proofs.Ytllicaibgjjidaa
