import Derived.Test.YtajcijocjbakbaaTdC
namespace Go.Proofs.Ytajcijocjbakbaa
open Go.RowKit

theorem info89 : (Try.prog.info? 89).map (fun i => (i.zero, i.size, i.bytes)) = some (some (.agg #[.int .i64 0, .int .i64 0]), 2, 16) := by kernel_rfl
set_option maxRecDepth 100000 in
set_option maxHeartbeats 1000000 in
theorem rplaces_any (B s : Nat) (T : Nat → RDt) (v : List Vt) (th : Int) (w : World) (h : RSet w B s T v) (hv : VFew v) :
    Calls Try.prog 21 #[.pointer (some ⟨s, 0, none⟩), .int .i64 th] w fun e w' => ∃ A n c, e = .returned (.slice A n c) ∧ Sl w' w.heap.size 2 A n c (plc (pls th v)) ∧ Frm w w' fun _ => False := by
  obtain ⟨i89, hi, hz0, hz1, hz2⟩ := info_parts info89
  have H := Lib.hid h
  have HV := Lib.hid hv
  clear h hv
  go_enter Try.func21, Try.ntmps21
  go_wp2_with fail
  go_loopw [5, 6, 7, 8, 9] (fun o i j1 j2 j3 wr => ∃ (d n : Nat) (A : Option Addr) (c : Nat), i = .int .i64 d ∧ 2 ≤ d ∧ d ≤ 9 ∧ o = .slice A n c ∧ Sl wr w.heap.size 2 A n c (plc (plsN th v (d - 2))) ∧ Frm w wr fun _ => False) (fun _ i _ _ _ _ => 9 - (intOf i).toNat)
  case atStart => exact ⟨2, 0, none, 0, rfl, by omega, by omega, rfl, Sl.nil _ _ _, Frm.refl _ _⟩
  case round =>
    obtain ⟨d, n, A, c, rfl, hd2, hd9, rfl, hS, hF⟩ := hrel
    have S := Lib.hid hS
    have F := Lib.hid hF
    clear hS hF
    by_cases hlk : d ≤ 8
    · have e1 : decide ((d : Int) ≤ 8) = true := by rw [decide_eq_true_eq]; omega
      have d0 : (0 : Int) ≤ (d : Int) := by omega
      have d9 : (d : Int) < 9 := by omega
      have hsucc : plsN th v (d + 1 - 2) = plsN th v (d - 2) ++ pltN d th (vrow v d) (vrow v d).length := by
        have : d + 1 - 2 = (d - 2) + 1 := by omega
        rw [this, plsN, show 2 + (d - 2) = d by omega]
      have HSUC := Lib.hid hsucc
      obtain ⟨bs, hbs⟩ : ∃ bs, vrow v d = bs := ⟨_, rfl⟩
      obtain ⟨n1, n2, n3⟩ := H.out.n d (by omega)
      obtain ⟨⟨X, n0, cX⟩, hqe⟩ : ∃ x, (T d).hq = x := ⟨_, rfl⟩
      obtain ⟨hs, hhs⟩ : ∃ x, (T d).hs = x := ⟨_, rfl⟩
      have hq := H.out.q d (by omega)
      have hc := (H.out.cell d (by omega)).1
      have hr := H.out.r d (by omega)
      rw [hqe] at hq n1 hc
      rw [hbs] at n1 n2 hr
      rw [hhs] at n2 hr hq
      have n1 : n0 = bs.length := n1
      have hc : w.cell? ⟨s, d, none⟩ = some (.slice X n0 cX) := hc
      have hfew := HV.out d
      have h256 := H.out.ok.few d
      rw [hbs] at hfew h256
      have HQ := Lib.hid hq
      have HC := Lib.hid hc
      have HR := Lib.hid hr
      have HFEW := Lib.hid hfew
      have HBS := Lib.hid hbs
      have HN := Lib.hid (And.intro n1 n2)
      have HPL := Lib.hid (plsN_few th v HV.out (d - 2))
      have hn0 : n0 ≤ 256 := by omega
      clear hsucc hq hc hr hfew n1 n2 n3 h256 hqe hhs hbs
      go_wp2_with fail
      go_loopw [5, 7, 8, 9] (fun o i j1 j2 w2 => ∃ (k n : Nat) (A : Option Addr) (c : Nat), i = .int .i64 k ∧ k ≤ n0 ∧ o = .slice A n c ∧ Sl w2 w.heap.size 2 A n c (plc (plsN th v (d - 2) ++ pltN d th bs k)) ∧ Frm w w2 fun _ => False) (fun _ i _ _ _ => n0 - (intOf i).toNat)
      case atStart => exact ⟨0, n, A, c, rfl, Nat.zero_le _, rfl, by rw [pltN, List.append_nil]; exact S.out, F.out⟩
      case round =>
        obtain ⟨k, n, A, c, rfl, hk2, rfl, hS, hF⟩ := hrel
        have S := Lib.hid hS
        have F := Lib.hid hF
        have hc := hF.cell HC.out id
        clear hS hF
        by_cases hlk : k < n0
        · have k0 : (0 : Int) ≤ (k : Int) := by omega
          have k1 : (k : Int) < (n0 : Int) := by omega
          have hkb : k < bs.length := by have := HN.out.1; omega
          have hkh : k < hs.length := by have := HN.out; omega
          have hle := HQ.out.le
          obtain ⟨gq, oq, rfl, _, _, cellq, _⟩ := HQ.out.form (by omega)
          have c1 := F.out.cell (cellq k (.slice hs[k].A hs[k].n hs[k].c) (by unfold hds; rw [List.getElem?_map, List.getElem?_eq_getElem hkh]; rfl)) id
          have hrq := HR.out k hs[k] bs[k] (List.getElem?_eq_getElem hkh) (List.getElem?_eq_getElem hkb)
          obtain ⟨⟨Ak, mk, ck⟩, hh⟩ : ∃ x, hs[k] = x := ⟨_, rfl⟩
          rw [hh] at c1 hrq
          obtain ⟨q, hq⟩ : ∃ q, (bs[k]).2.2 = q := ⟨_, rfl⟩
          rw [hq] at hrq
          have hrq : Rd w w.heap.size 3 Ak mk (ens q) := hrq
          have c1 : wr.cell? ⟨gq, oq + k, none⟩ = some (.slice Ak mk ck) := c1
          have hql := (Rd.ens hrq).1
          have HQ1 := Lib.hid hrq
          have hkq : kq bs k = q := by unfold kq; rw [List.getElem?_eq_getElem hkb, ← hq]; rfl
          have hq4 : q.length ≤ 4000 := by
            refine Nat.le_trans ?_ HFEW.out
            have hm : q ∈ bs.map (·.2.2) := List.mem_map.2 ⟨bs[k], List.getElem_mem hkb, hq⟩
            rw [List.flatMap_def]
            exact (List.sublist_flatten_of_mem hm).length_le
          have m4 : (mk : Int) ≤ 4000 := by omega
          have HKQ := Lib.hid hkq
          have HQL := Lib.hid hql
          clear cellq hrq hkq hq4 hql hh hq
          go_wp2_with fail
          go_loopw [5, 9] (fun o i w3 => ∃ (j n : Nat) (A : Option Addr) (c : Nat), i = .int .i64 j ∧ j ≤ mk ∧ o = .slice A n c ∧ Sl w3 w.heap.size 2 A n c (plc ((plsN th v (d - 2) ++ pltN d th bs k) ++ plq d k th (q.take j))) ∧ Frm w w3 fun _ => False) (fun _ i _ => mk - (intOf i).toNat)
          case atStart => exact ⟨0, n, A, c, rfl, Nat.zero_le _, rfl, by rw [List.take_zero, show plq d k th [] = [] from rfl, List.append_nil]; exact S.out, F.out⟩
          case round =>
            obtain ⟨j, n, A, c, rfl, hj, rfl, hS, hF⟩ := hrel
            have S := Lib.hid hS
            have F := Lib.hid hF
            clear hS hF
            by_cases hjm : j < mk
            · have j0 : (0 : Int) ≤ (j : Int) := by omega
              have j1 : (j : Int) < (mk : Int) := by omega
              have hjq : j < q.length := by have := HQL.out; omega
              obtain ⟨x, hx⟩ : ∃ x, q[j] = x := ⟨_, rfl⟩
              have hqx : q[j]? = some x := by rw [List.getElem?_eq_getElem hjq, hx]
              have HTK := Lib.hid (plq_take d k th q j x hqx)
              obtain ⟨g2, off2, rfl, -, hcell⟩ := (Rd.ens (HQ1.out.new_ F.out)).2 (by omega)
              obtain ⟨p0, p1, p2⟩ := hcell j hjq
              rw [hx] at p0 p1 p2
              have hn : n ≤ 36000 := by
                have h1 := S.out.len
                rw [plc_len, List.length_append, List.length_append] at h1
                have h2 := HPL.out
                have h3 := pltN_few d th bs k
                have h4 := plq_len d k th (q.take j)
                have h5 := HFEW.out
                rw [List.length_take] at h4
                omega
              obtain ⟨r1, r2⟩ : n + 1 ≤ maxLen ∧ (n + 1) * 16 ≤ 140737488355328 := by unfold maxLen; omega
              clear hcell hx hqx hjq
              cases hxt : x.t == th with
              | true =>
                have HXT := Lib.hid hxt
                go_wp2_with (at_builtin; refine wpList_append_sl _ rfl _ _ 55 rfl w.heap.size 89 i89 _ 2 16 Try.underlying55 hi hz0 hz1 hz2 rfl (by decide) _ _ _ _ rfl (S.out.alloc _) _ 1 1 [.int .i64 d, .int .i64 k] rfl (Rd.fresh_at _ 89 #[.int .i64 d, .int .i64 k] rfl (by simp)) (by simp [Value.oneCell']) r1 r2 (F.out.alloc _).size ?_; intro A' cap' w4 hap; replace hap := Lib.hid hap)
                go_roundw
                case rel =>
                  refine ⟨j + 1, n + 1, A', cap', by go_num, by omega, rfl, ?_, (F.out.alloc _).fresh hap.out.2.1 (fun j hj => (S.out.ge hj).1)⟩
                  have e : plc ((plsN th v (d - 2) ++ pltN d th bs k) ++ plq d k th (q.take (j + 1))) = plc ((plsN th v (d - 2) ++ pltN d th bs k) ++ plq d k th (q.take j)) ++ [.int .i64 d, .int .i64 k] := by
                    rw [HTK.out, HXT.out, if_pos rfl, ← List.append_assoc]
                    simp [plc]
                  rw [e]
                  exact hap.out.1
                case measure => simp [intOf]; omega
              | false =>
                have HXT := Lib.hid hxt
                go_wp2_with fail
                go_roundw
                case rel =>
                  refine ⟨j + 1, n, A, c, by go_num, by omega, rfl, ?_, F.out⟩
                  rw [HTK.out, HXT.out, if_neg (by decide), List.append_nil]
                  exact S.out
                case measure => simp [intOf]; omega
            · obtain rfl : j = mk := by omega
              go_wp2_with fail
              go_roundw
              case rel =>
                refine ⟨k + 1, n, A, c, by go_num, by omega, rfl, ?_, F.out⟩
                have := S.out
                rw [List.take_of_length_le (by rw [HQL.out]; exact Nat.le_refl _)] at this
                rw [pltN, HKQ.out, ← List.append_assoc]
                exact this
              case measure => simp [intOf]; omega
        · obtain rfl : k = n0 := by omega
          go_wp2_with fail
          go_roundw
          case rel =>
            refine ⟨d + 1, n, A, c, by go_num, by omega, by omega, rfl, ?_, F.out⟩
            rw [HSUC.out, HBS.out, ← HN.out.1]
            exact S.out
          case measure => simp [intOf]; omega
    · obtain rfl : d = 9 := by omega
      go_wp2_with fail
      go_ret
      exact ⟨A, n, c, rfl, S.out, F.out⟩
end Go.Proofs.Ytajcijocjbakbaa
