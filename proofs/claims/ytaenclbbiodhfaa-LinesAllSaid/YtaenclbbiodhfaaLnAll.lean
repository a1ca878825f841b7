import Derived.Test.YtaenclbbiodhfaaLnY
import Derived.Test.YtaenclbbiodhfaaLnTake
namespace Go.Proofs.Ytaenclbbiodhfaa.All
open Go.RowKit Go.Proofs.Ytaenclbbiodhfaa Go.Proofs.Ytaenclbbiodhfaa.Take

theorem two_len (key : Int) (xs : List En) : (alTaken key xs).length + (alLeft key xs).length = xs.length := by
  rw [alTaken_eq, alLeft_eq]
  induction xs with
  | nil => rfl
  | cons x xs ih =>
    by_cases h : x.k = key <;> simp [h] at ih ⊢ <;> omega
set_option maxRecDepth 100000 in
set_option maxHeartbeats 4000000 in
theorem walk (A : Option Addr) (n c : Nat) (key dst : Int) (xs : List En) (w : World) (hr : Rd w w.heap.size 3 A n (ens xs)) (hA : ∀ j, blk A j → j < w.heap.size) (hrl : (n : Int) ≤ 9223372036854775807) :
    Calls Try.prog 6 #[.slice A n c, .int .u32 key, .int .u32 dst] w fun e w' => e = .returned (.bool true) ∧ Frm w w' fun _ => False := by
  by_cases h60 : (60 : Int) < (n : Int)
  · go_enter Try.func6, Try.ntmps6
    go_wp2_with (go_at_call 14; refine (llives_any _).mono ?_; rintro e w' ⟨rfl, hf⟩)
    go_ret
    exact ⟨rfl, hf⟩
  have h60' : (n : Int) ≤ 60 := by omega
  have hnx := (Rd.ens hr).1
  have hS := some_any A n c key (n : Int) (by omega) xs w hr (by omega) hA
  rw [hnx, smTaken_all, smLeft_all, ← hnx] at hS
  have HS := Lib.hid hS
  have HR := Lib.hid hr
  have HN : Hid ((n : Int) ≤ 60) := h60'
  have HA := Lib.hid hA
  have HNX := Lib.hid hnx
  obtain ⟨ta, hta⟩ : ∃ l, alTaken key xs = l := ⟨_, rfl⟩
  obtain ⟨tb, htb⟩ : ∃ l, alLeft key xs = l := ⟨_, rfl⟩
  obtain ⟨la, hla⟩ : ∃ l, ta.length = l := ⟨_, rfl⟩
  obtain ⟨lb, hlb⟩ : ∃ l, tb.length = l := ⟨_, rfl⟩
  have HTA := Lib.hid hta
  have HTB := Lib.hid htb
  have HLA := Lib.hid hla
  have HLB := Lib.hid hlb
  clear hS hr hA hrl h60 hnx hta htb hla hlb
  have n35 := neq35
  have g35 := eqg35
  go_enter Try.func6, Try.ntmps6
  go_wp2_with fail
  refine HS.out.mono ?_
  rintro e w2 ⟨v, Aa, Ab, rfl, hP, hF⟩
  obtain ⟨hv, ha, hb, hd⟩ := hP
  rw [HTA.out, HLA.out] at ha
  rw [HTB.out, HLB.out] at hb
  rw [HTA.out, HTB.out, HLA.out, HLB.out] at hv
  subst hv
  have SA := Lib.hid (own1 ha)
  have SB := Lib.hid (own1 hb)
  have F := Lib.hid hF
  clear ha hb hd hF
  go_wp2_with fail
  refine (chosen_al A n c key xs _ (HR.out.new_ F.out) (by have := HN.out; omega) (fun j hj => by have := HA.out j hj; have := F.out.size; omega)).mono ?_
  rintro e w3 ⟨v, Ac, Ad, rfl, hP, hF⟩
  obtain ⟨hv, hc, hd, _⟩ := hP
  rw [HTA.out, HLA.out] at hc
  rw [HTB.out, HLB.out] at hd
  rw [HTA.out, HTB.out, HLA.out, HLB.out] at hv
  subst hv
  have SC := Lib.hid (own1 hc)
  have SD := Lib.hid (own1 hd)
  replace F := Lib.hid (F.out.then_ hF)
  replace SA := Lib.hid (SA.out.new_ hF)
  replace SB := Lib.hid (SB.out.new_ hF)
  clear hc hd hF
  go_wp2_with fail
  have hno : fst (fun x => x.k == key) tb = -1 := by
    refine fst_none (fun j hj => ?_)
    have hm : tb[j] ∈ alLeft key xs := by rw [HTB.out]; exact List.getElem_mem hj
    rw [alLeft_eq] at hm
    simpa using (List.mem_filter.1 hm).2
  have HB : Hid (la ≤ n ∧ lb ≤ n) := by
    have h1 := sel_le (alSo key xs) xs xs.length
    have h2 := sel_le (fun i => !(alSo key xs i)) xs xs.length
    rw [show sel (alSo key xs) xs xs.length = ta from HTA.out, HLA.out, ← HNX.out] at h1
    rw [show sel (fun i => !(alSo key xs i)) xs xs.length = tb from HTB.out, HLB.out, ← HNX.out] at h2
    exact ⟨h1, h2⟩
  have hH := has_any Ab lb lb key tb w3 SB.out.s.rd (by have := HN.out; have := HB.out; omega)
  rw [hno] at hH
  refine hH.mono ?_
  rintro e w4 ⟨rfl, hF⟩
  replace F := Lib.hid (F.out.then_ hF)
  replace SA := Lib.hid (SA.out.new_ hF)
  replace SB := Lib.hid (SB.out.new_ hF)
  replace SC := Lib.hid (SC.out.new_ hF)
  replace SD := Lib.hid (SD.out.new_ hF)
  clear hH hno hF
  go_wp2_with fail
  have R4 := Lib.hid (HR.out.new_ F.out)
  go_loopw [11, 12, 13, 14, 15] (fun r i _ _ _ wr => ∃ (k : Nat) (Ar : Option Addr) (lr cr : Nat) (l : List En), i = .int .i64 k ∧ k ≤ la ∧ r = .slice Ar lr cr ∧ lr ≤ n ∧ Rd wr wr.heap.size 3 Ar lr (ens l) ∧ l.filter (fun x => decide (x.k = key)) = ta.drop k ∧ l.filter (fun x => !decide (x.k = key)) = tb ∧ Frm w4 wr fun _ => False) (fun _ i _ _ _ _ => la - (intOf i).toNat)
  case atStart => exact ⟨0, A, n, c, xs, rfl, Nat.zero_le _, rfl, Nat.le_refl _, R4.out, by rw [← HTA.out, alTaken_eq]; rfl, by rw [← HTB.out, alLeft_eq], Frm.refl _ _⟩
  case round =>
    obtain ⟨k, Ar, lr, cr, l, rfl, hk, rfl, hlrn, hRl, hft, hfl, hF4⟩ := hrel
    have RL := Lib.hid hRl
    have F4 := Lib.hid hF4
    have FT := Lib.hid hft
    have FL := Lib.hid hfl
    by_cases hlt : k < la
    · have hkl : k < ta.length := by have := HLA.out; omega
      have hdrop : ta.drop k = ta[k] :: ta.drop (k + 1) := List.drop_eq_getElem_cons hkl
      obtain ⟨P, x, R, rfl, hP, hx⟩ := split_key key l (by rw [hft, hdrop]; exact List.cons_ne_nil _ _)
      have hPn : P.filter (fun x => decide (x.k = key)) = [] := List.filter_eq_nil_iff.2 (fun y hy => by simp [hP y hy])
      have e1 : (P ++ x :: R).filter (fun x => decide (x.k = key)) = x :: R.filter (fun x => decide (x.k = key)) := by
        rw [List.filter_append, hPn, List.filter_cons_of_pos (by simp [hx]), List.nil_append]
      rw [e1, hdrop] at hft
      injection hft with hxk hRk
      have hlr := (Rd.ens hRl).1
      have hlr2 : (lr : Int) ≤ 1000 := by have := HN.out; omega
      have h1 := first_any Ar lr cr key (P ++ x :: R) wr hRl hlr2
      rw [fst_split key P R x hP hx] at h1
      have H1 := Lib.hid h1
      have HLR := Lib.hid hlr
      have HLR2 := Lib.hid hlr2
      have HXK := Lib.hid hxk
      have HRK := Lib.hid hRk
      have HPN := Lib.hid hPn
      have HXX := Lib.hid hx
      clear hRl hfl hF4 h1 hlr hlr2 hxk hRk hPn hx e1 hdrop hP
      go_wp2_with fail
      refine H1.out.mono ?_
      rintro e w5 ⟨rfl, hF⟩
      replace F4 := Lib.hid (F4.out.then_ hF)
      have RL5 := RL.out.new_ hF
      have h2 := cut_any Ar lr cr (P.length : Int) (P ++ x :: R) w5 RL5 HLR2.out
      rw [cutX_split, cutLeft_split] at h2
      rw [show (decide (0 ≤ (P.length : Int)) && decide ((P.length : Int) < (lr : Int))) = true from by have := HLR.out; rw [List.length_append, List.length_cons] at this; rw [decide_eq_true (by omega), decide_eq_true (by omega)]; rfl] at h2
      have H2 := Lib.hid h2
      clear RL5 h2 hF
      go_wp2_with fail
      refine H2.out.mono ?_
      rintro e w6 ⟨An, rfl, hs, hF⟩
      replace F4 := Lib.hid (F4.out.then_ hF)
      obtain ⟨-, ga, oa, rfl, hga1, hga2, ca⟩ := (SA.out.new_ F4.out).s.ens (by omega)
      obtain ⟨-, gc, oc, rfl, hgc1, hgc2, cc⟩ := (SC.out.new_ F4.out).s.ens (by omega)
      obtain ⟨q0, q1, q2⟩ := ca k hkl
      obtain ⟨p0, p1, p2⟩ := cc k hkl
      rw [← HXK.out] at q0 q1 q2 p0 p1 p2
      have i0 : (0 : Int) ≤ (k : Int) := by omega
      have i1 : (k : Int) < (la : Int) := by omega
      have i2 : (k : Int) ≤ 60 := by have := HB.out; have := HN.out; omega
      have S6 := Lib.hid hs
      clear ca cc hs hF hga1 hga2 hgc1 hgc2
      go_wp2_with fail
      refine at_world ?_
      intro W7 hW7
      have F7 : Hid (Frm w6 W7 fun _ => False) := by rw [hW7]; exact (Frm.refl _ _).alloc _
      have B7 : Box3 W7 w6.heap.size x := by rw [hW7]; exact box3 w6 35 x
      obtain ⟨e0, e1, e2⟩ := B7
      replace q0 := Grown.cell (F7.out.cell q0 id)
      replace q1 := Grown.cell (F7.out.cell q1 id)
      replace q2 := Grown.cell (F7.out.cell q2 id)
      replace p0 := Grown.cell (F7.out.cell p0 id)
      replace p1 := Grown.cell (F7.out.cell p1 id)
      replace p2 := Grown.cell (F7.out.cell p2 id)
      replace e0 := Grown.cell e0
      replace e1 := Grown.cell e1
      replace e2 := Grown.cell e2
      clear hW7
      refine wp_region_grown W7 (Frm.refl _ _) (by kernel_rfl) (by kernel_rfl) ?_
      repeat (go_big_quiet_step (fail))
      refine wpQuiet_nil ?_
      intro wq hq
      replace F4 := Lib.hid (F4.out.then_ (F7.out.then_ hq))
      replace S6 := Lib.hid (S6.out.new_ (F7.out.then_ hq))
      clear hq e0 e1 e2 q0 q1 q2 p0 p1 p2
      go_wp2_with fail
      go_roundw
      case rel =>
        have hS6 := S6.out.rd
        rw [show (P ++ R).length = P.length + R.length from List.length_append] at hS6
        refine ⟨k + 1, An, P.length + R.length, P.length + R.length, P ++ R, by go_num, by omega, rfl, ?_, hS6, ?_, ?_, F4.out⟩
        · have := HLR.out
          rw [List.length_append, List.length_cons] at this
          omega
        · rw [List.filter_append, HPN.out, List.nil_append]; exact HRK.out
        · have := FL.out
          rw [List.filter_append, List.filter_cons_of_neg (by simp [HXX.out])] at this
          rw [List.filter_append]; exact this
      case measure => simp [intOf]; omega
    · obtain rfl : k = la := by omega
      have hlb : l = tb := by
        have h0 : ta.drop k = [] := by rw [List.drop_eq_nil_iff]; have := HLA.out; omega
        rw [h0] at hft
        rw [← hfl]
        refine (List.filter_eq_self.2 fun x hx => ?_).symm
        have := List.filter_eq_nil_iff.1 hft x hx
        simpa using this
      subst hlb
      have hlr := (Rd.ens hRl).1
      obtain rfl : lr = lb := by rw [hlr]; exact HLB.out
      have hsum : k + lr = n := by
        have h1 := two_len key xs
        rw [HTA.out, HTB.out, HLA.out, HLB.out, ← HNX.out] at h1
        exact h1
      have SB' := Lib.hid (SB.out.new_ F4.out)
      have SA' := Lib.hid (SA.out.new_ F4.out)
      have SC' := Lib.hid (SC.out.new_ F4.out)
      have SD' := Lib.hid (SD.out.new_ F4.out)
      have hM := moved_any Ab Aa lr lr k k dst l ta wr SB'.out.s.rd SA'.out.s.rd (by have := HN.out; omega) (by have := HN.out; omega)
      have HM := Lib.hid hM
      have HSUM := Lib.hid hsum
      have HLR := Lib.hid hlr
      have hne : ((lr : Int) != (lr : Int)) = false := by simp
      clear hRl hft hfl hF4 hM hsum hlr hlt hk hlrn
      go_wp2_with fail
      refine HM.out.mono ?_
      rintro e w5 ⟨Am, rfl, hs, hF⟩
      have i4 : ((lr + k : Nat) : Int) = (n : Int) := by have := HSUM.out; omega
      replace F4 := Lib.hid (F4.out.then_ hF)
      replace SA' := Lib.hid (SA'.out.new_ hF)
      replace SB' := Lib.hid (SB'.out.new_ hF)
      replace SC' := Lib.hid (SC'.out.new_ hF)
      replace SD' := Lib.hid (SD'.out.new_ hF)
      replace RL := Lib.hid (RL.out.new_ hF)
      have SM := Lib.hid hs
      clear hs hF
      go_wp2_with fail
      have SR := Lib.hid RL.out
      go_loopw [17] (fun i wr => ∃ q : Nat, i = .int .i64 q ∧ q ≤ n ∧ Frm w5 wr fun _ => False) (fun i _ => n - (intOf i).toNat)
      case atStart => exact ⟨0, rfl, Nat.zero_le _, Frm.refl _ _⟩
      case round =>
        obtain ⟨q, rfl, hq, hF5⟩ := hrel
        have F5 := Lib.hid hF5
        have q0 : (0 : Int) ≤ (q : Int) := by omega
        have q60 : (q : Int) ≤ 60 := by have := HN.out; omega
        by_cases hql : q < lr
        · have hx : q < l.length := by have := HLR.out; omega
          obtain ⟨-, gm, om, rfl, hm1, hm2, cm⟩ := (SM.out.new_ hF5).ens (by omega)
          obtain ⟨-, gb, ob, rfl, hb1, hb2, cb⟩ := (SB'.out.new_ hF5).s.ens (by omega)
          obtain ⟨-, gd, od, rfl, hd1, hd2, cd⟩ := (SD'.out.new_ hF5).s.ens (by omega)
          obtain ⟨gr, or_, rfl, hr1, cr_⟩ := (Rd.ens (RL.out.new_ hF5)).2 (by omega)
          obtain ⟨m0, m1, m2⟩ := cm q (by rw [List.length_append]; omega)
          obtain ⟨b0, b1, b2⟩ := cb q hx
          obtain ⟨d0, d1, d2⟩ := cd q hx
          obtain ⟨r0, r1, r2⟩ := cr_ q hx
          rw [List.getElem_append_left hx] at m0 m1 m2
          obtain ⟨x, hxx⟩ : ∃ x, l[q] = x := ⟨_, rfl⟩
          rw [hxx] at m0 m1 m2 b0 b1 b2 d0 d1 d2 r0 r1 r2
          have t1 : (q : Int) < (lr : Int) := by omega
          have t2 : (q : Int) < (lr : Int) + (k : Int) := by omega
          have t3 : decide ((lr : Int) ≤ (q : Int)) = false := by simp; omega
          have t4 : decide (lr ≤ q) = false := by simp; omega
          clear hm1 hm2 cm hb1 hb2 cb hd1 hd2 cd hr1 cr_ hxx hx hF5 hql
          go_wp2_with fail
          replace m0 := Grown.cell m0
          replace m1 := Grown.cell m1
          replace m2 := Grown.cell m2
          replace b0 := Grown.cell b0
          replace b1 := Grown.cell b1
          replace b2 := Grown.cell b2
          replace d0 := Grown.cell d0
          replace d1 := Grown.cell d1
          replace d2 := Grown.cell d2
          replace r0 := Grown.cell r0
          replace r1 := Grown.cell r1
          replace r2 := Grown.cell r2
          simp only [List.append_eq, List.cons_append, List.nil_append]
          refine wp_region_grown wr (Frm.refl _ _) (by kernel_rfl) (by kernel_rfl) ?_
          repeat (go_big_quiet_step (fail))
          refine wpQuiet_nil ?_
          intro wq hq'
          replace F5 := Lib.hid (F5.out.then_ hq')
          clear hq' m0 m1 m2 b0 b1 b2 d0 d1 d2 r0 r1 r2
          go_wp2_with fail
          go_roundw
          case rel => exact ⟨q + 1, by go_num, by have := HSUM.out; omega, F5.out⟩
          case measure => simp [intOf]; omega
        · by_cases hqn : q < n
          · obtain ⟨j, hj⟩ : ∃ j, q = lr + j := ⟨q - lr, by omega⟩
            have hjk : j < k := by have := HSUM.out; omega
            have hx : j < ta.length := by have := HLA.out; omega
            obtain ⟨-, gm, om, rfl, hm1, hm2, cm⟩ := (SM.out.new_ hF5).ens (by omega)
            obtain ⟨-, ga, oa, rfl, ha1, ha2, ca⟩ := (SA'.out.new_ hF5).s.ens (by omega)
            obtain ⟨m0, m1, m2⟩ := cm q (by rw [List.length_append, List.length_map]; have := HLR.out; omega)
            obtain ⟨a0, a1, a2⟩ := ca j hx
            have hmq : ∀ h, (l ++ ta.map (mv dst))[q]'h = mv dst ta[j] := by
              intro h
              have hl := HLR.out
              subst hj
              rw [List.getElem_append_right (by omega)]
              simp only [← hl, Nat.add_sub_cancel_left]
              exact List.getElem_map _
            rw [hmq] at m0 m1 m2
            obtain ⟨x, hxx⟩ : ∃ x, ta[j] = x := ⟨_, rfl⟩
            rw [hxx] at m0 m1 m2 a0 a1 a2
            simp only [mv] at m0 m1 m2
            have t1 : (lr : Int) ≤ (q : Int) := by omega
            have t2 : (q : Int) < (lr : Int) + (k : Int) := by omega
            have t3 : decide ((q : Int) < (lr : Int)) = false := by simp; omega
            have t4 : decide (q < lr) = false := by simp; omega
            have t5 : decide ((lr : Int) ≤ (q : Int)) = true := by simp; omega
            have t6 : decide (lr ≤ q) = true := by simp; omega
            have t7 : IntKind.i64.wrap ((q : Int) - (lr : Int)) = (j : Int) := by rw [hj]; rw [IntWalk.i64_in _ (by omega)]; omega
            have t8 : (0 : Int) ≤ (j : Int) := by omega
            have t9 : (j : Int) < (k : Int) := by omega
            have t10 : (q : Int) - (lr : Int) = (j : Int) := by omega
            clear hm1 hm2 cm ha1 ha2 ca hmq hxx hx hF5 hql
            have HJ := Lib.hid hj
            clear hj
            go_wp2_with fail
            replace m0 := Grown.cell m0
            replace m1 := Grown.cell m1
            replace m2 := Grown.cell m2
            replace a0 := Grown.cell a0
            replace a1 := Grown.cell a1
            replace a2 := Grown.cell a2
            simp only [List.append_eq, List.cons_append, List.nil_append]
            refine wp_region_grown wr (Frm.refl _ _) (by kernel_rfl) (by kernel_rfl) ?_
            repeat (go_big_quiet_step (fail))
            refine wpQuiet_nil ?_
            intro wq hq'
            replace F5 := Lib.hid (F5.out.then_ hq')
            clear hq' m0 m1 m2 a0 a1 a2 t7 t10
            go_wp2_with fail
            go_roundw
            case rel => exact ⟨q + 1, by go_num, by omega, F5.out⟩
            case measure => simp [intOf]; omega
          · have t1 : decide ((q : Int) < (lr : Int) + (k : Int)) = false := by have := HSUM.out; simp; omega
            obtain rfl : q = n := by omega
            have t2 : ((lr : Int) + (k : Int)) = (q : Int) := by have := HSUM.out; omega
            go_wp2_with (go_at_call 14; refine (llives_any _).mono ?_; rintro e w' ⟨rfl, hf⟩)
            go_ret
            exact ⟨rfl, F.out.then_ (F4.out.then_ (F5.out.then_ hf))⟩
end Go.Proofs.Ytaenclbbiodhfaa.All
