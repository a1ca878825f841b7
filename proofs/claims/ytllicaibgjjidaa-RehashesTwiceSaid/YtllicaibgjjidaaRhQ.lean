import Derived.Test.YtllicaibgjjidaaRhP
namespace Go.Proofs.Ytllicaibgjjidaa
open Go.RowKit

/-- All of a key. -/
def ky (key : Int) (l : List En) : List En := l.filter fun e => e.k == key
theorem ky_snoc (key : Int) (l : List En) (x : En) : ky key (l ++ [x]) = if x.k = key then ky key l ++ [x] else ky key l := by
  unfold ky
  rw [List.filter_append]
  split
  · rename_i h; simp [h]
  · rename_i h; simp [h]
theorem ky_len (key : Int) (l : List En) : (ky key l).length ≤ l.length := List.length_filter_le _ _
set_option maxRecDepth 100000 in
set_option maxHeartbeats 2000000 in
theorem many_any (A : Option Addr) (n c : Nat) (hs : List Hd) (qs : List (List En)) (w : World) (hr : RdD w w.heap.size A n hs qs) (hn : (n : Int) ≤ 1000) (htot : qs.flatten.length ≤ 1000) :
    Calls Try.prog 19 #[.slice A n c] w fun e w' => e = .returned (.int .i64 (qs.flatten.length : Nat)) ∧ w = w' := by
  have HR := Lib.hid hr
  have HQL := Lib.hid hr.lenq
  have HT := Lib.hid htot
  clear hr htot
  go_enter Try.func19, Try.ntmps19
  go_wp2_with fail
  go_loopw [3, 4] (fun s i wr => ∃ k p : Nat, i = .int .i64 k ∧ s = .int .i64 p ∧ p = pos qs k ∧ k ≤ n ∧ w = wr) (fun _ i _ => n - (intOf i).toNat)
  case atStart => exact ⟨0, 0, rfl, rfl, rfl, Nat.zero_le _, rfl⟩
  case round =>
    obtain ⟨k, p, rfl, rfl, hp, hkn, rfl⟩ := hrel
    have HP := Lib.hid hp
    have p1000 : (p : Int) ≤ 1000 := by
      have h1 := pos_le qs k
      have h2 := HT.out
      have h3 : (flat qs).length = qs.flatten.length := flatF_len qs 0
      omega
    clear hp
    have p0 : (0 : Int) ≤ (p : Int) := by omega
    by_cases hlk : k < n
    · have k0 : (0 : Int) ≤ (k : Int) := by omega
      have k1 : (k : Int) < (n : Int) := by omega
      obtain ⟨g, off, Ak, mk, ck, q, rfl, -, hh, -, hq, -, hmk⟩ := HR.out.at hlk
      have hkq : k < qs.length := by rw [HQL.out]; exact hlk
      have hqe : qs[k] = q := by rw [List.getElem?_eq_getElem hkq] at hq; injection hq
      have hps := pos_succ qs k hkq
      rw [hqe] at hps
      have hpl : p + mk ≤ 1000 := by
        have h1 := pos_le qs (k + 1)
        have h2 := HT.out
        have h3 : (flat qs).length = qs.flatten.length := flatF_len qs 0
        have h4 := HP.out
        omega
      have m0 : (mk : Int) ≤ 1000 := by omega
      have HPS := Lib.hid hps
      have HMK := Lib.hid hmk
      clear hq hps hqe hmk hpl
      go_wp2_with fail
      go_roundw
      case rel => exact ⟨k + 1, p + mk, by go_num, by go_num, by rw [HPS.out, ← HP.out, HMK.out], by omega, trivial⟩
      case measure => simp [intOf]; omega
    · obtain rfl : k = n := by omega
      have htot : qs.flatten.length = p := by rw [HP.out, ← HQL.out]; unfold pos; rw [List.take_length]
      go_wp2_with fail
      go_ret
      rw [htot]
      exact ⟨rfl, rfl⟩
theorem neq39 (t k z : Int) (w : World) : (binOp .neq 39 (.agg #[.int .i64 t, .int .u32 k, .int .u64 z]) (.agg #[.int .i64 t, .int .u32 k, .int .u64 z])).run Try.prog w = .ok (.bool false) w := by
  rw [run_neq_struct, run_equalIn_agg _ 9999 39 _ _ (by kernel_rfl) (by kernel_rfl)]
  simp [Program.fieldsOf, Try.underlying39, Op.eqFields, go_sem]
theorem eqg39 (op : BinOp) (x y : Operand) (a b : Array Value) (w : World) : (eqGuard op 39 x y (.agg a) (.agg b)).run Try.prog w = .ok () w :=
  run_eqGuard_agg w op 39 x y _ _ (by kernel_rfl)
set_option maxRecDepth 100000 in
set_option maxHeartbeats 1000000 in
theorem alike_same (A A' : Option Addr) (n c c' : Nat) (xs : List En) (w : World) (hr : Rd w w.heap.size 3 A n (ens xs)) (hr' : Rd w w.heap.size 3 A' n (ens xs)) (hn : (n : Int) ≤ 1000) :
    Calls Try.prog 21 #[.slice A n c, .slice A' n c'] w fun e w' => e = .returned (.bool true) ∧ Frm w w' fun _ => False := by
  obtain ⟨hlen, hcells⟩ := Rd.ens hr
  obtain ⟨_, hcells'⟩ := Rd.ens hr'
  have HL := Lib.hid hlen
  have HCE := Lib.hid hcells
  have HCE' := Lib.hid hcells'
  have n39 := neq39
  have g39 := eqg39
  clear hr hlen hcells hr' hcells'
  go_enter Try.func21, Try.ntmps21
  go_wp2_with fail
  go_loopw [5] (fun i wr => ∃ k : Nat, i = .int .i64 k ∧ k ≤ n ∧ Frm w wr fun _ => False) (fun i _ => n - (intOf i).toNat)
  case atStart => exact ⟨0, rfl, Nat.zero_le _, Frm.refl _ _⟩
  case round =>
    obtain ⟨k, rfl, hk, hF⟩ := hrel
    have F := Lib.hid hF
    clear hF
    by_cases hlt : k < n
    · obtain ⟨g, off, rfl, hg, hcell⟩ := HCE.out (by omega)
      obtain ⟨g', off', rfl, hg', hcell'⟩ := HCE'.out (by omega)
      have hkl : k < xs.length := by have := HL.out; omega
      obtain ⟨x, hx⟩ : ∃ x, x = xs[k] := ⟨_, rfl⟩
      have hc := hcell k hkl
      have hc' := hcell' k hkl
      rw [← hx] at hc hc'
      obtain ⟨q0, q1, q2⟩ := hc
      obtain ⟨p0, p1, p2⟩ := hc'
      replace q0 := Grown.cell (F.out.cell q0 id)
      replace q1 := Grown.cell (F.out.cell q1 id)
      replace q2 := Grown.cell (F.out.cell q2 id)
      replace p0 := Grown.cell (F.out.cell p0 id)
      replace p1 := Grown.cell (F.out.cell p1 id)
      replace p2 := Grown.cell (F.out.cell p2 id)
      have i0 : (0 : Int) ≤ (k : Int) := by omega
      have i1 : (k : Int) < (n : Int) := by omega
      clear hcell hx hcell'
      go_wp2_with fail
      refine wp_region_grown wr (Frm.refl _ _) (by kernel_rfl) (by kernel_rfl) ?_
      repeat (go_big_quiet_step (fail))
      refine wpQuiet_nil ?_
      intro wq hq
      have F2 := Lib.hid (F.out.then_ hq)
      clear hq q0 q1 q2 p0 p1 p2
      go_wp2_with fail
      go_roundw
      case rel => exact ⟨k + 1, by go_num, by omega, F2.out⟩
      case measure => simp [intOf]; omega
    · obtain rfl : k = n := by omega
      go_wp2_with fail
      go_ret
      exact ⟨rfl, F.out⟩
set_option maxRecDepth 100000 in
set_option maxHeartbeats 4000000 in
theorem keyed_any (A : Option Addr) (n c : Nat) (key : Int) (hs : List Hd) (qs : List (List En)) (w : World) (hr : RdD w w.heap.size A n hs qs) (hn : (n : Int) ≤ 1000) (hl : ∀ q ∈ qs, q.length ≤ 1000) (htot : qs.flatten.length ≤ 1000) :
    Calls Try.prog 22 #[.slice A n c, .int .u32 key] w fun e w' => ∃ Ao m co, e = .returned (.slice Ao m co) ∧ Sl w' w.heap.size 3 Ao m co (ens (ky key qs.flatten)) ∧ Frm w w' fun _ => False := by
  obtain ⟨i39, hj, hy0, hy1, hy2⟩ := info_parts info39
  have HR := Lib.hid hr
  have HQL := Lib.hid hr.lenq
  have HL := Lib.hid hl
  have HT := Lib.hid htot
  clear hr hl htot
  go_enter Try.func22, Try.ntmps22
  go_wp2_with fail
  go_loopw [5, 6] (fun l i wr => ∃ (k m : Nat) (Al : Option Addr) (cl : Nat), i = .int .i64 k ∧ k ≤ n ∧ l = .slice Al m cl ∧ Sl wr w.heap.size 3 Al m cl (ens (ky key (upto qs (pos qs k)))) ∧ Frm w wr fun _ => False) (fun _ i _ => n - (intOf i).toNat)
  case atStart => exact ⟨0, 0, none, 0, rfl, Nat.zero_le _, rfl, Sl.nil _ _ _, Frm.refl _ _⟩
  case round =>
    obtain ⟨k, m, Al, cl, rfl, hkn, rfl, hM, hG⟩ := hrel
    have M := Lib.hid hM
    have G := Lib.hid hG
    clear hM hG
    by_cases hlk : k < n
    · have k0 : (0 : Int) ≤ (k : Int) := by omega
      have k1 : (k : Int) < (n : Int) := by omega
      obtain ⟨g, off, Ak, mk, ck, q, rfl, -, hh, -, hq, hhd, hmk⟩ := (HR.out.new_ G.out).at hlk
      have hkq : k < qs.length := by rw [HQL.out]; exact hlk
      have hqe : qs[k] = q := by rw [List.getElem?_eq_getElem hkq] at hq; injection hq
      have hps := pos_succ qs k hkq
      rw [hqe] at hps
      have hql := HL.out q (List.mem_of_getElem? hq)
      have m1 : (mk : Int) ≤ 1000 := by omega
      have HQ := Lib.hid hq
      have HHD := Lib.hid hhd
      have HPS := Lib.hid hps
      have HMK := Lib.hid hmk
      clear hq hhd hps hqe hmk
      go_wp2_with fail
      go_loopw [5, 7] (fun l i wr => ∃ (j m : Nat) (Al : Option Addr) (cl : Nat), i = .int .i64 j ∧ j ≤ mk ∧ l = .slice Al m cl ∧ Sl wr w.heap.size 3 Al m cl (ens (ky key (upto qs (pos qs k + j)))) ∧ Frm w wr fun _ => False) (fun _ i _ => mk - (intOf i).toNat)
      case atStart => exact ⟨0, m, Al, cl, rfl, Nat.zero_le _, rfl, M.out, G.out⟩
      case round =>
        obtain ⟨j, m, Al, cl, rfl, hj', rfl, hM, hG⟩ := hrel
        have M := Lib.hid hM
        have G := Lib.hid hG
        clear hM hG
        have hrk := (HR.out.new_ G.out).rowAt HHD.out HQ.out
        have hhw := G.out.cell (p := ⟨g, off + k, none⟩) (v := .slice Ak mk ck) (by
          obtain ⟨g', off', Ak', mk', ck', q', e1, -, hhw, -, -, hhd', -⟩ := HR.out.at hlk
          injection e1 with e1
          injection e1 with e1 e2
          subst e1 e2
          rw [HHD.out] at hhd'
          injection hhd' with h
          injection h with h1 h2 h3
          subst h1 h2 h3
          exact hhw) id
        by_cases hjm : j < mk
        · have hjq : j < q.length := by have := HMK.out; omega
          obtain ⟨x, hx⟩ : ∃ x, q[j] = x := ⟨_, rfl⟩
          have hqx : q[j]? = some x := by rw [List.getElem?_eq_getElem hjq, hx]
          have hup := upto_pos qs k j q x HQ.out hqx
          have hul := upto_len qs (pos qs k + j)
          obtain ⟨g2, off2, hA2, -, hcell⟩ := (Rd.ens hrk).2 (by show 0 < mk; omega)
          have hA2 : Ak = some ⟨g2, off2, none⟩ := hA2
          subst hA2
          obtain ⟨p0, p1, p2⟩ := hcell j hjq
          rw [hx] at p0 p1 p2
          have hml : m ≤ 1000 := by
            have h1 := M.out.len
            rw [ens_len] at h1
            have h3 := ky_len key (upto qs (pos qs k + j))
            have h4 := HT.out
            omega
          obtain ⟨r1, r2⟩ : m + 1 ≤ maxLen ∧ (m + 1) * 24 ≤ 140737488355328 := by unfold maxLen; omega
          have hbs := ky_snoc key (upto qs (pos qs k + j)) x
          rw [← hup] at hbs
          have HB := Lib.hid hbs
          have j0 : (0 : Int) ≤ (j : Int) := by omega
          have j1 : (j : Int) < (mk : Int) := by omega
          clear hcell hrk hx hqx hup hul hbs hml hjq
          by_cases hyb : x.k = key
          · have e1 : (x.k == key) = true := by simp [hyb]
            have HYB := Lib.hid hyb
            clear hyb
            go_wp2_with (at_builtin; refine wpList_append_sl _ rfl _ _ 32 rfl w.heap.size 39 i39 _ 3 24 Try.underlying32 hj hy0 hy1 hy2 rfl (by decide) _ _ _ _ rfl (M.out.alloc _) _ 1 1 x.V rfl (Rd.fresh_at _ 39 #[.int .i64 x.t, .int .u32 x.k, .int .u64 x.tok] rfl rfl) x.one r1 r2 (Nat.le_trans G.out.size (by simp)) ?_; intro A' cap' w3 hap; replace hap := Lib.hid hap)
            go_roundw
            case rel => exact ⟨j + 1, m + 1, A', cap', by go_num, by omega, rfl, by rw [HB.out, if_pos HYB.out, ens_snoc]; exact hap.out.1, (G.out.then_ ((Frm.refl _ _).alloc _)).fresh hap.out.2.1 (fun j hj => (M.out.ge hj).1)⟩
            case measure => simp [intOf]; omega
          · have e1 : (x.k == key) = false := by simp [hyb]
            have HYB := Lib.hid hyb
            clear hyb
            go_wp2_with fail
            go_roundw
            case rel => exact ⟨j + 1, m, Al, cl, by go_num, by omega, rfl, by rw [HB.out, if_neg HYB.out]; exact M.out, G.out⟩
            case measure => simp [intOf]; omega
        · obtain rfl : j = mk := by omega
          clear hrk
          go_wp2_with fail
          go_roundw
          case rel => exact ⟨k + 1, m, Al, cl, by go_num, by omega, rfl, by rw [HPS.out, ← HMK.out]; exact M.out, G.out⟩
          case measure => simp [intOf]; omega
    · obtain rfl : k = n := by omega
      have hall : upto qs (pos qs k) = qs.flatten := by rw [← HQL.out, pos_all, upto_all]
      have M := Lib.hid (hall ▸ M.out)
      clear hall
      go_wp2_with fail
      go_ret
      exact ⟨Al, m, cl, rfl, M.out, G.out⟩
end Go.Proofs.Ytllicaibgjjidaa
