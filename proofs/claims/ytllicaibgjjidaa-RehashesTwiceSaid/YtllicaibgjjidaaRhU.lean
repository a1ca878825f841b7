import Derived.Test.YtllicaibgjjidaaRhR
namespace Go.Proofs.Ytllicaibgjjidaa
open Go.RowKit

theorem rehash_ok {nb : Nat} {qs : List (List En)} (h : ∀ q ∈ qs, ∀ x ∈ q, EnOk x) : ∀ q ∈ rehash nb qs, ∀ x ∈ q, EnOk x := fun q hq x hx => by
  obtain ⟨i, _, rfl⟩ := List.mem_map.1 hq
  obtain ⟨q', hq', hx'⟩ := List.mem_flatten.1 (List.mem_filter.1 hx).1
  exact h q' hq' x hx'
theorem rehash_row {nb : Nat} {qs : List (List En)} (h : qs.flatten.length ≤ 1000) : ∀ q ∈ rehash nb qs, q.length ≤ 1000 := fun q hq => by
  obtain ⟨i, _, rfl⟩ := List.mem_map.1 hq
  have := bk_len nb i qs.flatten
  omega
theorem rehash_tot {nb : Nat} (h2 : 2 ≤ nb) (h8 : nb ≤ 8) {qs : List (List En)} (h : qs.flatten.length ≤ 1000) : (rehash nb qs).flatten.length ≤ 1000 := by
  unfold rehash
  rw [bks_flen nb h2 h8]
  exact h
/-- One step of rehashing, as the law asks it. -/
theorem rehash_step (A : Option Addr) (n c nb : Nat) (hs : List Hd) (qs : List (List En)) (w : World) (h2 : 2 ≤ nb) (h8 : nb + 1 ≤ 8) (hr : RdD w w.heap.size A n hs (rehash nb qs)) (hn : (n : Int) ≤ 1000) (hok : ∀ q ∈ qs, ∀ x ∈ q, EnOk x) (htot : qs.flatten.length ≤ 1000) (m : Nat) (hm : nb ≤ m) (hm8 : m ≤ 8) (z : Nat) (hz : 2 ^ m = z) :
    Calls Try.prog 13 #[.slice A n c, .int .i64 m] w fun e w' => ∃ g hs', e = .returned (.slice (some ⟨g, 0, none⟩) z z) ∧ OwD w' w.heap.size w.heap.size (some ⟨g, 0, none⟩) z z hs' (rehash m qs) ∧ Frm w w' fun _ => False := by
  refine (rehash_in A n c m hs (rehash nb qs) w (by omega) hm8 hr hn (rehash_row htot) (rehash_ok hok) (rehash_tot h2 (by omega) htot)).mono ?_
  rintro e w' ⟨g, hs', he, ho, -, hf⟩
  rw [rehash_again nb m hm hm8, hz] at ho
  rw [hz] at he
  exact ⟨g, hs', he, ho, hf⟩
theorem filt_at (p : En → Bool) (q : List En) (j : Nat) (hj : j < q.length) (hp : p q[j] = true) : (q.filter p)[((q.take j).filter p).length]? = some q[j] := by
  conv => lhs; arg 1; rw [← List.take_append_drop j q, List.filter_append]
  rw [List.getElem?_append_right (Nat.le_refl _), Nat.sub_self, List.drop_eq_getElem_cons hj, List.filter_cons_of_pos hp]
  rfl
theorem filt_succ (p : En → Bool) (q : List En) (j : Nat) (hj : j < q.length) : ((q.take (j + 1)).filter p).length = ((q.take j).filter p).length + if p q[j] then 1 else 0 := by
  rw [List.take_succ_eq_append_getElem hj, List.filter_append, List.length_append]
  cases h : p q[j] with
  | true => rw [List.filter_cons_of_pos h]; rfl
  | false => rw [List.filter_cons_of_neg (by simp [h])]; rfl
theorem filt_le (p : En → Bool) (q : List En) (j : Nat) : ((q.take j).filter p).length ≤ j := by
  have h1 := List.length_filter_le p (q.take j)
  rw [List.length_take] at h1
  omega
theorem eql39 (t k z : Int) (w : World) : (binOp .eql 39 (.agg #[.int .i64 t, .int .u32 k, .int .u64 z]) (.agg #[.int .i64 t, .int .u32 k, .int .u64 z])).run Try.prog w = .ok (.bool true) w := by
  rw [run_eql_struct, run_equalIn_agg _ 9999 39 _ _ (by kernel_rfl) (by kernel_rfl)]
  simp [Program.fieldsOf, Try.underlying39, Op.eqFields, go_sem]
theorem eql39_no {t k z t' k' z' : Int} (h : k ≠ k') (w : World) : (binOp .eql 39 (.agg #[.int .i64 t, .int .u32 k, .int .u64 z]) (.agg #[.int .i64 t', .int .u32 k', .int .u64 z'])).run Try.prog w = .ok (.bool false) w := by
  rw [run_eql_struct, run_equalIn_agg _ 9999 39 _ _ (by kernel_rfl) (by kernel_rfl)]
  simp [Program.fieldsOf, Try.underlying39, Op.eqFields, go_sem, h]
set_option maxRecDepth 100000 in
set_option maxHeartbeats 4000000 in
theorem twice_walk (A : Option Addr) (n c fr tt : Nat) (hs : List Hd) (qs : List (List En)) (w : World) (hr : RdD w w.heap.size A n hs qs) (hm : n ≤ maxLen) (hok : ∀ q ∈ qs, ∀ x ∈ q, EnOk x) (hfr : (fr : Int) ≤ 255) (hto : (tt : Int) ≤ 255) :
    Calls Try.prog 5 #[.slice A n c, .int .u8 (fr : Nat), .int .u8 (tt : Nat)] w fun e w' => e = .returned (.bool true) ∧ Frm w w' fun _ => False := by
  have HFEW := Lib.hid (few_any A n c hs qs w hr hm)
  have HR := Lib.hid hr
  have HOK := Lib.hid hok
  obtain ⟨nb, hnb⟩ : ∃ nb, 2 + fr % 6 = nb := ⟨_, rfl⟩
  have h2 : 2 ≤ nb := by omega
  have h7 : nb ≤ 7 := by omega
  have hnbi : (2 : Int) + (fr : Int) % 6 = (nb : Int) := by omega
  obtain ⟨dv, hdv⟩ : ∃ dv, 8 - nb = dv := ⟨_, rfl⟩
  have hdvi : (8 : Int) - (nb : Int) = (dv : Int) := by omega
  have dv1 : (1 : Int) ≤ (dv : Int) := by omega
  have dv0 : ((dv : Int) == 0) = false := by simp; omega
  have f0 : (0 : Int) ≤ (fr : Int) := by omega
  have t0 : (0 : Int) ≤ (tt : Int) := by omega
  have n2 : (2 : Int) ≤ (nb : Int) := by omega
  have n7 : (nb : Int) ≤ 7 := by omega
  obtain ⟨r, hr'⟩ : ∃ r, tt % dv = r := ⟨_, rfl⟩
  have hri : (tt : Int) % (dv : Int) = (r : Int) := by rw [← hr']; rfl
  have hri2 : (tt : Int).tmod (dv : Int) = (r : Int) := by rw [← hr']; rfl
  have r7 : (r : Int) ≤ 6 := by have := Nat.mod_lt tt (show 0 < dv by omega); omega
  have r0 : (0 : Int) ≤ (r : Int) := by omega
  obtain ⟨m, hmm⟩ : ∃ m, nb + 1 + r = m := ⟨_, rfl⟩
  have hmi : (nb : Int) + 1 + (r : Int) = (m : Int) := by omega
  have m8 : m ≤ 8 := by have := Nat.mod_lt tt (show 0 < dv by omega); omega
  have hnm : nb + 1 ≤ m := by omega
  clear hr hm hok hnb hdv hr' hmm
  go_enter Try.func5, Try.ntmps5
  go_wp2_with fail
  refine HFEW.out.mono ?_
  rintro e w' ⟨fb, rfl, hfb, rfl⟩
  cases fb with
  | false =>
    clear hfb
    go_wp2_with (go_at_call 11; refine (lives9 _).mono ?_; rintro e w2 ⟨rfl, hf⟩; have F := Lib.hid hf)
    go_ret
    exact ⟨rfl, F.out⟩
  | true =>
    obtain ⟨h300, h60, h600⟩ := hfb rfl
    have H60 : Hid (∀ q ∈ qs, q.length ≤ 1000) := fun q hq => by have := h60 q hq; omega
    have n1 : (n : Int) ≤ 1000 := by omega
    have H600 := Lib.hid (show qs.flatten.length ≤ 1000 by omega)
    obtain ⟨za, hza⟩ : ∃ z, 2 ^ nb = z := ⟨_, rfl⟩
    have hRe := fun V (h : RdD V V.heap.size A n hs qs) => rehash_in A n c nb hs qs V h2 (by omega) h n1 H60.out HOK.out H600.out
    rw [hza] at hRe
    have HRE := Lib.hid hRe
    have HZA := Lib.hid hza
    have hza2 : za ≤ 256 := by rw [← hza]; exact Nat.pow_le_pow_right (n := 2) (by decide) (show nb ≤ 8 by omega)
    clear hfb h60 h600 h300 hRe hza
    go_wp2_with (go_at_call 13; refine (HRE.out _ HR.out).mono ?_; rintro e w2 ⟨ga, ha, rfl, ho, -, hf⟩; have SA := Lib.hid ho; have F2 := Lib.hid hf; clear ho hf)
    go_loopw [10, 11] (fun co bi wr => ∃ (b z gc : Nat) (hc : List Hd), bi = .int .i64 (b + 1 : Nat) ∧ co = .slice (some ⟨gc, 0, none⟩) z z ∧ nb ≤ b ∧ b ≤ m ∧ 2 ^ b = z ∧ OwD wr w.heap.size w.heap.size (some ⟨gc, 0, none⟩) z z hc (rehash b qs) ∧ Frm w2 wr fun _ => False) (fun _ bi _ => 10 - (intOf bi).toNat)
    case atStart => exact ⟨nb, za, ga, ha, by go_num, rfl, Nat.le_refl _, by omega, HZA.out, SA.out, Frm.refl _ _⟩
    case round =>
      obtain ⟨b, z, gc, hc, rfl, rfl, hnb, hbm, hz, hC, hG⟩ := hrel
      have C := Lib.hid hC
      have G := Lib.hid hG
      have HZ := Lib.hid hz
      have hz256 : z ≤ 256 := by rw [← hz]; exact Nat.pow_le_pow_right (n := 2) (by decide) (show b ≤ 8 by omega)
      have hbi : ((b + 1 : Nat) : Int) = (b : Int) + 1 := by omega
      clear hC hG hz
      by_cases hlt : b < m
      · obtain ⟨B, hB⟩ : ∃ B, b + 1 = B := ⟨_, rfl⟩
        have HST := Lib.hid (fun V (h : RdD V V.heap.size (some ⟨gc, 0, none⟩) z hc (rehash b qs)) => rehash_step (some ⟨gc, 0, none⟩) z z b hc qs V (by omega) (by omega) h (by omega) HOK.out H600.out B (by omega) (by omega) (2 * z) (by rw [← hB, Nat.pow_succ, HZ.out]; omega))
        have HBB := Lib.hid hB
        rw [hB]
        have B1 : (B : Int) ≤ (m : Int) := by omega
        have B0 : (0 : Int) ≤ (B : Int) := by omega
        have B8 : (B : Int) ≤ 8 := by omega
        clear hB hbi
        obtain ⟨zd, hzd⟩ : ∃ zd, 2 * z = zd := ⟨_, rfl⟩
        rw [hzd] at HST
        have HZD := Lib.hid hzd
        clear hzd
        go_wp2_with (go_at_call 13; refine (HST.out _ C.out.rd).mono ?_; rintro e w3 ⟨gd, hd, rfl, ho, hf⟩; have D := Lib.hid ho; have C3 := Lib.hid (C.out.new_ hf); have F3 := Lib.hid (G.out.then_ hf); clear ho hf)
        go_loopw [13] (fun i wr => ∃ i' : Nat, i = .int .i64 i' ∧ i' ≤ z ∧ Frm w3 wr fun _ => False) (fun i _ => z - (intOf i).toNat)
        case atStart => exact ⟨0, rfl, Nat.zero_le _, Frm.refl _ _⟩
        case round =>
          obtain ⟨i, rfl, hiz, hG⟩ := hrel
          have G3 := Lib.hid hG
          clear hG
          by_cases hil : i < z
          · obtain ⟨s, hs'⟩ : ∃ s, 2 * i = s := ⟨_, rfl⟩
            obtain ⟨t, ht'⟩ : ∃ t, s + 1 = t := ⟨_, rfl⟩
            have hszd : s < zd := by have := HZD.out; omega
            have htzd : t < zd := by have := HZD.out; omega
            have si : (2 : Int) * (i : Int) = (s : Int) := by omega
            have ti : (s : Int) + 1 = (t : Int) := by omega
            obtain ⟨Ac, mc, cc, q, hhc, -, hsc, -, hqc⟩ := C3.out.at hil
            obtain ⟨A0, m0, c0, q0, hh0, -, hs0, -, hq0⟩ := D.out.at hszd
            obtain ⟨A1, m1, c1, q1, hh1, -, hs1, -, hq1⟩ := D.out.at htzd
            have hqc' : bk b i qs.flatten = q := by
              obtain ⟨h1, h3⟩ := List.getElem?_eq_some_iff.1 hqc
              rw [← h3]; exact (bks_at _ _ _ h1).symm
            have hp0 : q.filter (fun e => hk B e == s) = q0 := by
              obtain ⟨h1, h3⟩ := List.getElem?_eq_some_iff.1 hq0
              rw [← h3, ← hqc']
              refine (bk_pick b qs.flatten _ i fun x hx => ?_).trans (bks_at _ _ _ h1).symm
              have h5 : hk B x = s := by simpa using hx
              have h4 := hk_half (n := b) (m := B) x (by have := HBB.out; omega) (by omega)
              rw [show B - b = 1 from by have := HBB.out; omega] at h4
              omega
            have hp1 : q.filter (fun e => hk B e == t) = q1 := by
              obtain ⟨h1, h3⟩ := List.getElem?_eq_some_iff.1 hq1
              rw [← h3, ← hqc']
              refine (bk_pick b qs.flatten _ i fun x hx => ?_).trans (bks_at _ _ _ h1).symm
              have h5 : hk B x = t := by simpa using hx
              have h4 := hk_half (n := b) (m := B) x (by have := HBB.out; omega) (by omega)
              rw [show B - b = 1 from by have := HBB.out; omega] at h4
              omega
            have hqx : ∀ x ∈ q, EnOk x ∧ (hk B x = s ∨ hk B x = t) := fun x hx => by
              rw [← hqc'] at hx
              obtain ⟨h1, h3⟩ := List.mem_filter.1 hx
              obtain ⟨q', hq', hx'⟩ := List.mem_flatten.1 h1
              refine ⟨HOK.out q' hq' x hx', ?_⟩
              have h3 : hk b x = i := by simpa using h3
              have h4 := hk_half (n := b) (m := B) x (by have := HBB.out; omega) (by omega)
              rw [show B - b = 1 from by have := HBB.out; omega] at h4
              omega
            have hq1000 : q.length ≤ 1000 := by
              rw [← hqc']
              have h1 := bk_len b i qs.flatten
              have h3 := H600.out
              omega
            have hmc := (Rd.ens hsc.rd).1
            have hm0 := (Rd.ens hs0.rd).1
            have hm1 := (Rd.ens hs1.rd).1
            rw [Nat.zero_add] at hhc hh0 hh1
            have mc1 : (mc : Int) ≤ 1000 := by omega
            have HHC := Lib.hid hhc
            have HH0 := Lib.hid hh0
            have HH1 := Lib.hid hh1
            have RC := Lib.hid (Rd.ens hsc.rd).2
            have R0 := Lib.hid (Rd.ens hs0.rd).2
            have R1 := Lib.hid (Rd.ens hs1.rd).2
            have HP0 := Lib.hid hp0
            have HP1 := Lib.hid hp1
            have HQX := Lib.hid hqx
            have HMC := Lib.hid hmc
            have HM0 := Lib.hid hm0
            have HM1 := Lib.hid hm1
            have i0 : (0 : Int) ≤ (i : Int) := by omega
            have i1 : (i : Int) < (z : Int) := by omega
            have s0 : (0 : Int) ≤ (s : Int) := by omega
            have s1 : (s : Int) < (zd : Int) := by omega
            have tt0 : (0 : Int) ≤ (t : Int) := by omega
            have t1 : (t : Int) < (zd : Int) := by omega
            have HST2 : Hid (t ≠ s) := by show t ≠ s; omega
            clear hs' ht' hhc hsc hqc hh0 hs0 hq0 hh1 hs1 hq1 hqc' hp0 hp1 hqx hmc hm0 hm1 hq1000
            go_wp2_with fail
            go_loopw [14, 15, 16] (fun xx yy jj wr => ∃ j X Y : Nat, jj = .int .i64 j ∧ xx = .int .i64 X ∧ yy = .int .i64 Y ∧ j ≤ mc ∧ X = ((q.take j).filter fun e => hk B e == s).length ∧ Y = ((q.take j).filter fun e => hk B e == t).length ∧ Frm w3 wr fun _ => False) (fun _ _ jj _ => mc - (intOf jj).toNat)
            case atStart => exact ⟨0, 0, 0, rfl, rfl, rfl, Nat.zero_le _, by simp, by simp, G3.out⟩
            case round =>
              obtain ⟨j, X, Y, rfl, rfl, rfl, hjm, hX, hY, hG⟩ := hrel
              have G4 := Lib.hid hG
              clear hG
              have dc := G4.out.cell HHC.out id
              have d0 := G4.out.cell HH0.out id
              have d1 := G4.out.cell HH1.out id
              by_cases hjl : j < mc
              · have hjq : j < q.length := by have := HMC.out; omega
                obtain ⟨x, hx⟩ : ∃ x, q[j] = x := ⟨_, rfl⟩
                obtain ⟨hxok, hst⟩ := HQX.out x (by rw [← hx]; exact List.getElem_mem hjq)
                have hXs := filt_succ (fun e => hk B e == s) q j hjq
                have hYs := filt_succ (fun e => hk B e == t) q j hjq
                have hXl := filt_le (fun e => hk B e == s) q j
                have hYl := filt_le (fun e => hk B e == t) q j
                have hXa := fun h => filt_at (fun e => hk B e == s) q j hjq h
                have hYa := fun h => filt_at (fun e => hk B e == t) q j hjq h
                rw [hx, ← hX] at hXs hXa
                rw [hx, ← hY] at hYs hYa
                rw [← hX] at hXl
                rw [← hY] at hYl
                rw [HP0.out] at hXa
                rw [HP1.out] at hYa
                obtain ⟨gx, ox, hAc, -, hcell⟩ := RC.out (by omega)
                subst hAc
                obtain ⟨x0, x1, x2⟩ := hcell j hjq
                rw [hx] at x0 x1 x2
                replace x0 := Grown.cell (G4.out.cell x0 id)
                replace x1 := Grown.cell (G4.out.cell x1 id)
                replace x2 := Grown.cell (G4.out.cell x2 id)
                have dc' := Grown.cell dc
                have d0' := Grown.cell d0
                have d1' := Grown.cell d1
                obtain ⟨y, hy⟩ : ∃ y, hk B x = y := ⟨_, rfl⟩
                have HASH := Lib.hid (fun V => hash_en x hxok B (by have := HBB.out; omega) (by omega) V)
                rw [hy] at HASH hst hXs hYs
                simp only [hy] at hXa hYa
                have HY := Lib.hid hy
                have j0 : (0 : Int) ≤ (j : Int) := by omega
                have j1 : (j : Int) < (mc : Int) := by omega
                have X0 : (0 : Int) ≤ (X : Int) := by omega
                have Y0 : (0 : Int) ≤ (Y : Int) := by omega
                have X1 : (X : Int) ≤ 1000 := by omega
                have Y1 : (Y : Int) ≤ 1000 := by omega
                have y0 : (0 : Int) ≤ (y : Int) := by omega
                have e39 := eql39
                have g39 := eqg39
                clear hcell hx hy hX hY hXl hYl hjq d0 d1
                by_cases hys : y = s
                · have hXa := hXa (by simp [hys])
                  have hXm : X < m0 := by
                    have := (List.getElem?_eq_some_iff.1 hXa).1
                    have := HM0.out
                    omega
                  obtain ⟨gy, oy, hA0, -, hcell⟩ := R0.out (by omega)
                  subst hA0
                  obtain ⟨hXl, hXe⟩ := List.getElem?_eq_some_iff.1 hXa
                  obtain ⟨z0, z1, z2⟩ := hcell X hXl
                  rw [hXe] at z0 z1 z2
                  replace z0 := Grown.cell (G4.out.cell z0 id)
                  replace z1 := Grown.cell (G4.out.cell z1 id)
                  replace z2 := Grown.cell (G4.out.cell z2 id)
                  have X2 : (X : Int) < (m0 : Int) := by omega
                  have ys : ((y : Int) == (s : Int)) = true := by simp; omega
                  have HXS := Lib.hid hXs
                  have HYS := Lib.hid hYs
                  have HYE := Lib.hid hys
                  clear hXa hXl hXe hcell hXs hYs hYa hXm hst hys
                  go_wp2_with fail
                  refine wp_region_grown wr (Frm.refl _ _) (by kernel_rfl) (by kernel_rfl) ?_
                  repeat (go_big_quiet_step ((go_at_call 20; refine Calls.grown_same (HASH.out _))))
                  refine wpQuiet_nil ?_
                  intro wq1 hq1
                  have G5 := Lib.hid (G4.out.then_ hq1)
                  clear hq1
                  go_wp2_with fail
                  go_roundw
                  case rel => exact ⟨j + 1, X + 1, Y, by go_num, by go_num, rfl, by omega, by rw [HXS.out, HYE.out]; simp, by rw [HYS.out, HYE.out]; simp [Ne.symm HST2.out], G5.out⟩
                  case measure => simp [intOf]; omega
                · have hyt : y = t := hst.resolve_left hys
                  have hYa := hYa (by simp [hyt])
                  obtain ⟨gy, oy, hA1, -, hcell⟩ := R1.out (by have := (List.getElem?_eq_some_iff.1 hYa).1; have := HM1.out; omega)
                  subst hA1
                  obtain ⟨hYl, hYe⟩ := List.getElem?_eq_some_iff.1 hYa
                  have Y2 : (Y : Int) < (m1 : Int) := by have := HM1.out; omega
                  obtain ⟨z0, z1, z2⟩ := hcell Y hYl
                  rw [hYe] at z0 z1 z2
                  replace z0 := Grown.cell (G4.out.cell z0 id)
                  replace z1 := Grown.cell (G4.out.cell z1 id)
                  replace z2 := Grown.cell (G4.out.cell z2 id)
                  have ys : ((y : Int) == (s : Int)) = false := by simp; omega
                  have HXS := Lib.hid hXs
                  have HYS := Lib.hid hYs
                  have HYE := Lib.hid hyt
                  have HYY := Lib.hid hys
                  clear hYa hYl hYe hcell hXs hYs hXa hst hyt hys
                  by_cases hXm : X < m0
                  · obtain ⟨gw, ow, hA0, -, hcell⟩ := R0.out (by omega)
                    subst hA0
                    have hXq : X < q0.length := by have := HM0.out; omega
                    obtain ⟨w0, w1', w2'⟩ := hcell X hXq
                    obtain ⟨e0, he0⟩ : ∃ e0, q0[X] = e0 := ⟨_, rfl⟩
                    rw [he0] at w0 w1' w2'
                    have hne : e0.k ≠ x.k := by
                      intro hk'
                      have h1 : e0 ∈ q0 := by rw [← he0]; exact List.getElem_mem hXq
                      rw [← HP0.out] at h1
                      have h3 := (List.mem_filter.1 h1).2
                      have h3 : hk B e0 = s := by simpa using h3
                      have h4 := HY.out
                      unfold hk at h3 h4
                      rw [hk', h4] at h3
                      exact HYY.out h3
                    have e39n := fun w => eql39_no (t := e0.t) (z := e0.tok) (t' := x.t) (z' := x.tok) hne w
                    replace w0 := Grown.cell (G4.out.cell w0 id)
                    replace w1' := Grown.cell (G4.out.cell w1' id)
                    replace w2' := Grown.cell (G4.out.cell w2' id)
                    have X2 : (X : Int) < (m0 : Int) := by omega
                    clear hcell hXq he0 hXm hne
                    go_wp2_with fail
                    refine wp_region_grown wr (Frm.refl _ _) (by kernel_rfl) (by kernel_rfl) ?_
                    repeat (go_big_quiet_step ((go_at_call 20; refine Calls.grown_same (HASH.out _))))
                    refine wpQuiet_nil ?_
                    intro wq1 hq1
                    have HQ1 := Lib.hid hq1
                    clear hq1
                    go_wp2_with fail
                    refine wp_region_grown wr HQ1.out (by kernel_rfl) (by kernel_rfl) ?_
                    repeat (go_big_quiet_step (fail))
                    refine wpQuiet_nil ?_
                    intro wq2 hq2
                    have G5 := Lib.hid (G4.out.then_ hq2)
                    clear hq2
                    go_wp2_with fail
                    go_roundw
                    case rel => exact ⟨j + 1, X, Y + 1, by go_num, rfl, by go_num, by omega, by rw [HXS.out, HYE.out]; simp [HST2.out], by rw [HYS.out, HYE.out]; simp, G5.out⟩
                    case measure => simp [intOf]; omega
                  · have X2 : decide ((X : Int) < (m0 : Int)) = false := by simp; omega
                    have X3 : (m0 : Int) ≤ (X : Int) := by omega
                    have X4 : decide (X < m0) = false := by rw [decide_eq_false_iff_not]; omega
                    have X5 : m0 ≤ X := by omega
                    clear hXm
                    go_wp2_with fail
                    refine wp_region_grown wr (Frm.refl _ _) (by kernel_rfl) (by kernel_rfl) ?_
                    repeat (go_big_quiet_step ((go_at_call 20; refine Calls.grown_same (HASH.out _))))
                    refine wpQuiet_nil ?_
                    intro wq1 hq1
                    have HQ1 := Lib.hid hq1
                    clear hq1
                    go_wp2_with fail
                    refine wp_region_grown wr HQ1.out (by kernel_rfl) (by kernel_rfl) ?_
                    repeat (go_big_quiet_step (fail))
                    refine wpQuiet_nil ?_
                    intro wq2 hq2
                    have G5 := Lib.hid (G4.out.then_ hq2)
                    clear hq2
                    go_wp2_with fail
                    go_roundw
                    case rel => exact ⟨j + 1, X, Y + 1, by go_num, rfl, by go_num, by omega, by rw [HXS.out, HYE.out]; simp [HST2.out], by rw [HYS.out, HYE.out]; simp, G5.out⟩
                    case measure => simp [intOf]; omega
              · obtain rfl : j = mc := by omega
                clear d0 d1 hX hY
                go_wp2_with fail
                go_roundw
                case rel => exact ⟨i + 1, by go_num, by omega, G4.out⟩
                case measure => simp [intOf]; omega
          · obtain rfl : i = z := by omega
            go_wp2_with fail
            go_roundw
            case rel =>
              have hsz := (F2.out.then_ G.out).size
              exact ⟨B, zd, gd, hd, by go_num, rfl, by have := HBB.out; omega, by omega, by rw [← HBB.out, Nat.pow_succ, HZ.out]; have := HZD.out; omega, (D.out.new_ G3.out).mono hsz hsz, F3.out.then_ G3.out⟩
            case measure => have := HBB.out; simp [intOf]; omega
      · obtain rfl : b = m := by omega
        have HST := Lib.hid (fun V (h : RdD V V.heap.size (some ⟨ga, 0, none⟩) za ha (rehash nb qs)) => rehash_step (some ⟨ga, 0, none⟩) za za nb ha qs V h2 (by omega) h (by omega) HOK.out H600.out b (by omega) m8 z HZ.out)
        have HROW := Lib.hid (rehash_row (nb := b) H600.out)
        have hgt : decide (((b + 1 : Nat) : Int) ≤ (b : Int)) = false := by rw [decide_eq_false_iff_not]; omega
        have hgt2 : decide ((b : Int) + 1 ≤ (b : Int)) = false := by rw [decide_eq_false_iff_not]; omega
        go_wp2_with (go_at_call 13; refine (HST.out _ (SA.out.new_ G.out).rd).mono ?_; rintro e w3 ⟨ge, he, rfl, ho, hf⟩; have E := Lib.hid ho; have C3 := Lib.hid (C.out.new_ hf); have F3 := Lib.hid (G.out.then_ hf); clear ho hf)
        go_loopw [18] (fun i wr => ∃ i' : Nat, i = .int .i64 i' ∧ i' ≤ z ∧ Frm w3 wr fun _ => False) (fun i _ => z - (intOf i).toNat)
        case atStart => exact ⟨0, rfl, Nat.zero_le _, Frm.refl _ _⟩
        case round =>
          obtain ⟨i, rfl, hiz, hG⟩ := hrel
          have G3 := Lib.hid hG
          clear hG
          by_cases hil : i < z
          · obtain ⟨Ac, mc, cc, q, hhc, -, hsc, -, hqc⟩ := (C3.out.new_ G3.out).at hil
            obtain ⟨A0, m0, c0, q0, hh0, -, hs0, -, hq0⟩ := (E.out.new_ G3.out).at hil
            have hqq : q0 = q := by rw [hqc] at hq0; injection hq0 with h; exact h.symm
            subst hqq
            have hmm : m0 = mc := by rw [(Rd.ens hs0.rd).1, (Rd.ens hsc.rd).1]
            subst hmm
            have hql := HROW.out q0 (List.mem_of_getElem? hqc)
            have m1 : (m0 : Int) ≤ 1000 := by rw [(Rd.ens hs0.rd).1]; omega
            rw [Nat.zero_add] at hhc hh0
            have hrc := hsc.rd
            have hr0 := hs0.rd
            have HAL := Lib.hid (fun (V : Grown wr) => alike_same A0 Ac m0 c0 cc q0 V.1 ((hr0.below (V.2.below (fun _ _ => id) (Nat.le_refl _))).more V.2.size) ((hrc.below (V.2.below (fun _ _ => id) (Nat.le_refl _))).more V.2.size) m1)
            replace hhc := Grown.cell hhc
            replace hh0 := Grown.cell hh0
            have i0 : (0 : Int) ≤ (i : Int) := by omega
            have i1 : (i : Int) < (z : Int) := by omega
            clear hsc hs0 hqc hq0 hql hrc hr0
            go_wp2_with fail
            refine wp_region_grown wr (Frm.refl _ _) (by kernel_rfl) (by kernel_rfl) ?_
            repeat (go_big_quiet_step ((go_at_call 21; refine Calls.grown_of (HAL.out _))))
            refine wpQuiet_nil ?_
            intro wq hq
            have G5 := Lib.hid (G3.out.then_ hq)
            clear hq hhc hh0
            go_wp2_with fail
            go_roundw
            case rel => exact ⟨i + 1, by go_num, by omega, G5.out⟩
            case measure => simp [intOf]; omega
          · obtain rfl : i = z := by omega
            go_wp2_with (go_at_call 11; refine (lives9 _).mono ?_; rintro e w10 ⟨rfl, hf⟩; have F10 := Lib.hid (((F2.out.then_ F3.out).then_ G3.out).then_ hf); clear hf)
            go_ret
            exact ⟨rfl, F10.out⟩
end Go.Proofs.Ytllicaibgjjidaa
