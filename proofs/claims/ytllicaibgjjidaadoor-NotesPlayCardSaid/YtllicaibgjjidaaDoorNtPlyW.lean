import Derived.Test.YtllicaibgjjidaaDoorNtT
import Derived.Test.YtllicaibgjjidaaDoorNtO
import Derived.Deep.DeepCutAuto
import Derived.Deep.RegionWith
namespace Go.Proofs.YtllicaibgjjidaaDoor.Ply
open Go.ChangeShapes Go.WideShapes Go.ChangeAt Go.WideMaps Go.WideElems Go.RowKit Go.Proofs.YtllicaibgjjidaaDoor

/-- What the list holds behind k notes. -/
def st (N : Nat → Nt) : Nat → List Nt
  | 0 => []
  | k + 1 => addL (st N k) (N k)
theorem st_len (N : Nat → Nt) (k : Nat) : (st N k).length ≤ k := by
  induction k with
  | zero => exact Nat.le_refl _
  | succ k ih => have := addL_length (st N k) (N k); show (addL _ _).length ≤ _; omega
theorem st_ok {N : Nat → Nt} {len : Nat} (hN : ∀ i, i < len → 0 ≤ (N i).k ∧ (N i).k ≤ 255) (k : Nat) (hk : k ≤ len) : Oks (st N k) := by
  induction k with
  | zero => intro x hx; cases hx
  | succ k ih =>
    intro x hx
    have hx' : x ∈ addL (st N k) (N k) := hx
    unfold addL at hx'
    split at hx'
    · rcases List.mem_append.1 hx' with h | h
      · exact ih (by omega) x h
      · simp at h; subst h; exact hN k (by omega)
    · exact ih (by omega) x hx'
theorem grf {W : World} (F : Grown W) : Frm W F.1 fun _ => False := F.2
theorem Two.apart {w wr : World} {B b1 b2 c1 c2 : Nat} {A1 A2 : Option Addr} {xs ys : List Nt} (h : Two w wr B b1 b2 A1 c1 A2 c2 xs ys) {q : Nat} (hq : wr.heap.size ≤ q) : q ≠ b1 ∧ q ≠ b2 ∧ ¬ blk A1 q ∧ ¬ blk A2 q ∧ w.heap.size ≤ q := by
  have h1 := h.p.lst.lt
  have h2 := h.r.lst.lt
  have h3 := h.p.le
  have h4 := h.p.hB
  refine ⟨by omega, by omega, fun hk => ?_, fun hk => ?_, by omega⟩
  · have := (h.p.lst.sl.ge hk).2; omega
  · have := (h.r.lst.sl.ge hk).2; omega
theorem Two.store {w wr : World} {B b1 b2 c1 c2 : Nat} {A1 A2 : Option Addr} {xs ys : List Nt} (h : Two w wr B b1 b2 A1 c1 A2 c2 xs ys) (p : Addr) (v : Value) (h1 : p.block ≠ b1) (h2 : p.block ≠ b2) (h3 : ¬ blk A1 p.block) (h4 : ¬ blk A2 p.block) (h5 : w.heap.size ≤ p.block) : Two w (wr.setCell p v) B b1 b2 A1 c1 A2 c2 xs ys := by
  have hf : Frm wr (wr.setCell p v) fun k => k = p.block := (Frm.refl wr (fun k => k = p.block)).setCell (p := p) (fun _ => rfl) v
  have hf' : Frm w (wr.setCell p v) fun _ => False := h.p.frm.trans hf fun k hk e => by subst e; omega
  exact ⟨⟨h.p.lst.frm hf (fun e => h1 e.symm) (fun k hk e => by subst e; exact h3 hk), hf', h.p.hb, h.p.hB, by simpa using h.p.le⟩,
    ⟨h.r.lst.frm hf (fun e => h2 e.symm) (fun k hk e => by subst e; exact h4 hk), hf', h.r.hb, h.r.hB, by simpa using h.r.le⟩, h.ne, h.dis⟩

set_option maxHeartbeats 8000000 in
set_option maxRecDepth 100000 in
theorem walk (A : Option Addr) (len cap : Nat) (N : Nat → Nt) (j : Int) (w : World) (hT : Tab w) (hA : Args w A len N) (hN : ∀ i, i < len → 0 ≤ (N i).k ∧ (N i).k ≤ 255) (hl : len ≤ 9223372036854775807) :
    Calls Tryd.prog 4 #[.slice A len cap, .int .i64 j] w fun e w' => e = .returned (.bool true) ∧ Frm w w' fun _ => False := by
  by_cases h200 : 200 < len
  · have HT := Lib.hid hT
    clear hT
    go_enter Tryd.func4, Tryd.ntmps4
    go_wp2_with (go_at_call 11; refine (lives_any _ HT.out).mono ?_; rintro e w' ⟨rfl, hf⟩)
    go_ret
    exact ⟨rfl, hf⟩
  · have HT := Lib.hid hT
    have HA := Lib.hid hA
    have HN := Lib.hid hN
    have T0 := Lib.hid (Two.first w)
    have L200 := Lib.hid (Nat.not_lt.1 h200)
    clear hT hA hN
    go_enter Tryd.func4, Tryd.ntmps4
    go_wp2_with (go_at_call 8; refine (new_any w).mono ?_; rintro e w' ⟨rfl, rfl⟩)
    go_loopw [7] (fun i wr => ∃ (k : Nat) (A1 : Option Addr) (c1 : Nat) (A2 : Option Addr) (c2 : Nat), i = .int .i64 k ∧ k ≤ len ∧ Two w wr (w.heap.size + 2) w.heap.size (w.heap.size + 1) A1 c1 A2 c2 (st N k) (st N k)) (fun i _ => len - (intOf i).toNat)
    case atStart => exact ⟨0, none, 0, none, 0, rfl, Nat.zero_le _, T0.out⟩
    case round =>
      clear T0
      obtain ⟨k, A1, c1, A2, c2, rfl, hk, hS⟩ := hrel
      have T := Lib.hid hS
      clear hS
      by_cases hlt : k < len
      · obtain ⟨g, off, rfl, hg, hcell⟩ := HA.out (by omega)
        obtain ⟨n, hn⟩ : ∃ n, N k = n := ⟨_, rfl⟩
        have hc := Lib.hid (hcell k hlt)
        rw [hn] at hc
        obtain ⟨n0, n1⟩ := HN.out k hlt
        rw [hn] at n0 n1
        have ik : (0 : Int) ≤ (k : Int) := by omega
        have ik1 : (k : Int) < (len : Int) := by omega
        have S7 := fun (W : World) (hf : Frm w W fun _ => False) => cells7 (n := n) (g := g) (o := off + k * 7) hf hc.out
        replace S7 := Lib.hid S7
        have hst : Hid (st N (k + 1) = addL (st N k) n) := by show _ = _; rw [← hn]; rfl
        have hfew : Few (st N k).length := ⟨by have := st_len N k; have := L200.out; omega⟩
        have q0 := S7.out wr T.out.p.frm
        clear hcell
        go_wp2_with fail
        go_cut [48] from 19 to 112 (fun s48 wx => s48 = .bool false ∧ ∃ (A1' : Option Addr) (c1' : Nat) (A2' : Option Addr) (c2' : Nat), Two w wx (w.heap.size + 2) w.heap.size (w.heap.size + 1) A1' c1' A2' c2' (st N (k + 1)) (st N (k + 1)))
        case first =>
          obtain ⟨p0, p1, p2, p3, p4, p5, p6⟩ := q0
          go_region_with (first
              | (go_at_call 9; refine (add_any _ _ _ _ (st N k) n n0 n1 _ (HT.out.frm (S := fun _ => False) (T.out.new_ (by (repeat (first | exact Frm.refl _ _ | apply Frm.drew | apply Frm.drewN | apply Frm.alloc)))).p.frm id) (T.out.new_ (by (repeat (first | exact Frm.refl _ _ | apply Frm.drew | apply Frm.drewN | apply Frm.alloc)))).p.lst (T.out.new_ (by (repeat (first | exact Frm.refl _ _ | apply Frm.drew | apply Frm.drewN | apply Frm.alloc)))).p.le hfew).mono ?_; rintro e w3 ⟨rfl, ha⟩; obtain ⟨A1', c1', T1⟩ := (T.out.new_ (by (repeat (first | exact Frm.refl _ _ | apply Frm.drew | apply Frm.drewN | apply Frm.alloc)))).addP ha; replace T1 := Lib.hid T1; obtain ⟨x0, x1, x2, x3, x4, x5, x6⟩ := S7.out _ T1.out.p.frm; clear ha)
              | (go_at_call 13; refine (other_any n n0 n1 _).mono ?_; rintro e w4 ⟨rfl, hf⟩; have T2 := Lib.hid (T1.out.new_ hf); clear hf T1)
              | (go_at_call 12; refine (radd_any _ _ _ _ (st N k) n n0 n1 _ T2.out.r.lst T2.out.r.le hfew).mono ?_; rintro e w5 ⟨rfl, ha⟩; obtain ⟨A2', c2', T3⟩ := T2.out.addR ha; replace T3 := Lib.hid T3; have h5 := T3.out.r.lst.head; have hd5 := Lib.hid T3.out.p.lst.head; clear ha T2)
              | (go_at_call 14; refine (count_any _ _ _ _ _ hd5.out).mono ?_; rintro e w' ⟨rfl, rfl⟩))
          all_goals
            go_wp2_with fail
            go_meet
            rw [hst.out]
            exact ⟨rfl, _, _, _, _, T3.out⟩
        case rest =>
          obtain ⟨rfl, A1', c1', A2', c2', T3⟩ := hcut
          replace T3 := Lib.hid T3
          clear q0 T hst hfew
          obtain ⟨ys, hys⟩ : ∃ ys, st N (k + 1) = ys := ⟨_, rfl⟩
          obtain ⟨m, hm⟩ : ∃ m, ys.length = m := ⟨_, rfl⟩
          have hm200 : m ≤ 200 := by have h1 := st_len N (k + 1); rw [hys, hm] at h1; have := L200.out; omega
          have hoks : Oks ys := by rw [← hys]; exact st_ok HN.out (k + 1) hlt
          have hfewY : Few ys.length := ⟨by omega⟩
          have hmm : m ≤ 9223372036854775807 := by omega
          have HY := Lib.hid (And.intro hoks hfewY)
          obtain ⟨jn, hjn⟩ : ∃ jn, j.toNat = jn := ⟨_, rfl⟩
          replace hjn := Lib.hid hjn
          obtain ⟨sn, hsn⟩ : ∃ sn, m - jn = sn := ⟨_, rfl⟩
          have hsm : sn ≤ 9223372036854775807 := by omega
          replace hsn := Lib.hid hsn
          have HYM := Lib.hid (And.intro hys hm)
          rw [hys] at T3
          have CA := all_any _ _ _ _ ys _ T3.out.p.le T3.out.p.lst hfewY
          rw [hm] at CA
          replace CA := Lib.hid CA
          clear hoks hfewY hys hm
          go_wp2_with (first
            | (go_at_call 15; refine CA.out.mono ?_; rintro e w6 ⟨A', rfl, hsl, hf⟩; have T4 := Lib.hid (T3.out.new_ hf); have ap1 := Lib.hid (fun (q : Nat) (hq : blk A' q) => Two.apart T3.out (hsl.ge hq).1); replace hsl := Lib.hid hsl; have f56 := Lib.hid hf; clear hf)
            | (go_at_call 16; refine (since_any _ _ _ _ ys j w6 T4.out.p.le T4.out.p.lst HY.out.2).mono ?_; rw [HYM.out.2, hjn.out, hsn.out]; rintro e w7 ⟨A'', rfl, hsl2, hf⟩; have T5 := Lib.hid (T4.out.new_ hf); have hsl1 := Lib.hid (hsl.out.new_ hf); have ap2 := Lib.hid (fun (q : Nat) (hq : blk A'' q) => Two.apart T4.out (hsl2.ge hq).1); have dsj : Hid (∀ q, blk A' q → ¬ blk A'' q) := (fun q h1 h2 => by have := (hsl.out.ge h1).2; have := (hsl2.ge h2).1; omega); replace hsl2 := Lib.hid hsl2; have f67 := Lib.hid hf; clear hf))
          have hR := T5.out.r.lst.sl
          rw [HYM.out.2] at hR
          have hhd := T5.out.r.lst.head
          rw [HYM.out.2] at hhd
          have ch := Grown.cell hhd
          have hoD : Oks (ys.drop jn) := fun x hx => HY.out.1 x (List.mem_of_mem_drop hx)
          have hmm2 : m - jn ≤ 9223372036854775807 := by omega
          have hdl : (ys.drop jn).length = m - jn := by rw [List.length_drop, HYM.out.2]
          have HD := Lib.hid hoD
          have HR := Lib.hid hR
          clear hR hoD hhd
          go_cut [92] from 19 to 112 (fun s92 wx => s92 = .bool false ∧ Frm w7 wx fun _ => False)
          case first =>
            by_cases hlo : jn < m
            · by_cases hj0 : j < 0
              · obtain rfl : jn = 0 := by have := hjn.out; omega
                obtain rfl : sn = m := by have := hsn.out; omega
                obtain ⟨g2, off2, rfl, _⟩ := HR.out.form (by have := HR.out.le; omega)
                rw [List.drop_zero] at hsl2
                have hle := HR.out.le
                have b3 : (0 : Int) ≤ (c2' : Int) := by omega
                have b4 : (0 : Int) ≤ (sn : Int) := by omega
                have hcj : ¬ c2' = 0 := by omega
                clear hle hdl
                refine wp_region_grown w7 (Frm.refl _ _) (by kernel_rfl) (by kernel_rfl) ?_
                repeat (go_big_quiet_step (first
                  | (go_at_call_of 17 A'; refine Calls.grown_of (same_any _ _ _ _ _ _ ys _ HY.out.1 (hsl1.out.new_ (grf _)).rd (HR.out.new_ (grf _)).rd hmm))
                  | (go_at_call_of 17 A''; refine Calls.grown_of (same_any _ _ _ _ _ _ ys _ HY.out.1 (hsl2.out.new_ (grf _)).rd (HR.out.new_ (grf _)).rd hmm))))
                refine wpQuiet_nil ?_
                intro wq hq
                go_wp2_with fail
                go_meet
                exact ⟨rfl, hq⟩
              · obtain ⟨g2, off2, rfl, hC⟩ := HR.out.cut (k := jn) (by omega) (by have := HR.out.le; omega)
                rw [count_flat lenR] at hC
                have HC := Lib.hid hC
                have hle := HR.out.le
                have hcj : ¬ c2' = jn := by omega
                have hj1 : j = (jn : Int) := by have := hjn.out; omega
                have b1 : ¬ (jn : Int) < 0 := by omega
                have b2 : (jn : Int) ≤ (m : Int) := by omega
                have b3 : (jn : Int) ≤ (c2' : Int) := by omega
                have b4 : (0 : Int) ≤ (jn : Int) := by omega
                have hsn' := hsn.out
                subst hsn'
                subst hj1
                clear hj0 hle hC hdl
                refine wp_region_grown w7 (Frm.refl _ _) (by kernel_rfl) (by kernel_rfl) ?_
                repeat (go_big_quiet_step (first
                  | (go_at_call_of 17 A'; refine Calls.grown_of (same_any _ _ _ _ _ _ ys _ HY.out.1 (hsl1.out.new_ (grf _)).rd (HR.out.new_ (grf _)).rd hmm))
                  | (go_at_call_of 17 A''; refine Calls.grown_of (same_any _ _ _ _ _ _ (ys.drop jn) _ HD.out (hsl2.out.new_ (grf _)).rd (HC.out.new_ (grf _)).rd hmm2))))
                refine wpQuiet_nil ?_
                intro wq hq
                go_wp2_with fail
                go_meet
                exact ⟨rfl, hq⟩
            · obtain rfl : sn = 0 := by have := hsn.out; omega
              clear hdl
              by_cases hj0 : j < 0
              · obtain rfl : jn = 0 := by have := hjn.out; omega
                obtain rfl : m = 0 := by omega
                rcases HR.out.row with ⟨rfl, hc0⟩ | ⟨g2, off2, rfl, _⟩
                · subst hc0
                  refine wp_region_grown w7 (Frm.refl _ _) (by kernel_rfl) (by kernel_rfl) ?_
                  repeat (go_big_quiet_step (first
                    | (go_at_call_of 17 A'; refine Calls.grown_of (same_any _ _ _ _ _ _ ys _ HY.out.1 (hsl1.out.new_ (grf _)).rd (HR.out.new_ (grf _)).rd hmm))
                    | (go_at_call_of 17 A''; refine Calls.grown_of (same_any _ 0 _ _ _ _ [] _ (fun _ h => nomatch h) (Rd.nil _ 0 _ _) (Rd.nil _ 0 _ _) (by omega)))))
                  refine wpQuiet_nil ?_
                  intro wq hq
                  go_wp2_with fail
                  go_meet
                  exact ⟨rfl, hq⟩
                · by_cases hcm : c2' = 0
                  · subst hcm
                    refine wp_region_grown w7 (Frm.refl _ _) (by kernel_rfl) (by kernel_rfl) ?_
                    repeat (go_big_quiet_step (first
                      | (go_at_call_of 17 A'; refine Calls.grown_of (same_any _ _ _ _ _ _ ys _ HY.out.1 (hsl1.out.new_ (grf _)).rd (HR.out.new_ (grf _)).rd hmm))
                      | (go_at_call_of 17 A''; refine Calls.grown_of (same_any _ 0 _ _ _ _ [] _ (fun _ h => nomatch h) (Rd.nil _ 0 _ _) (Rd.nil _ 0 _ _) (by omega)))))
                    refine wpQuiet_nil ?_
                    intro wq hq
                    go_wp2_with fail
                    go_meet
                    exact ⟨rfl, hq⟩
                  · have hle := HR.out.le
                    have b7 : (0 : Int) ≤ (c2' : Int) := by omega
                    have b8 : (0 : Int) ≤ (0 : Int) := by omega
                    clear hle
                    refine wp_region_grown w7 (Frm.refl _ _) (by kernel_rfl) (by kernel_rfl) ?_
                    repeat (go_big_quiet_step (first
                      | (go_at_call_of 17 A'; refine Calls.grown_of (same_any _ _ _ _ _ _ ys _ HY.out.1 (hsl1.out.new_ (grf _)).rd (HR.out.new_ (grf _)).rd hmm))
                      | (go_at_call_of 17 A''; refine Calls.grown_of (same_any _ 0 _ _ _ _ [] _ (fun _ h => nomatch h) (Rd.nil _ 0 _ _) (Rd.nil _ 0 _ _) (by omega)))))
                    refine wpQuiet_nil ?_
                    intro wq hq
                    go_wp2_with fail
                    go_meet
                    exact ⟨rfl, hq⟩
              · have hj1 : j = (jn : Int) := by have := hjn.out; omega
                subst hj1
                have b1 : ¬ (jn : Int) < 0 := by omega
                by_cases hjm : jn = m
                · subst hjm
                  rcases HR.out.row with ⟨rfl, hc0⟩ | ⟨g2, off2, rfl, _⟩
                  · subst hc0
                    obtain rfl : jn = 0 := by have := HR.out.le; omega
                    refine wp_region_grown w7 (Frm.refl _ _) (by kernel_rfl) (by kernel_rfl) ?_
                    repeat (go_big_quiet_step (first
                      | (go_at_call_of 17 A'; refine Calls.grown_of (same_any _ _ _ _ _ _ ys _ HY.out.1 (hsl1.out.new_ (grf _)).rd (HR.out.new_ (grf _)).rd hmm))
                      | (go_at_call_of 17 A''; refine Calls.grown_of (same_any _ 0 _ _ _ _ [] _ (fun _ h => nomatch h) (Rd.nil _ 0 _ _) (Rd.nil _ 0 _ _) (by omega)))))
                    refine wpQuiet_nil ?_
                    intro wq hq
                    go_wp2_with fail
                    go_meet
                    exact ⟨rfl, hq⟩
                  · by_cases hcm : c2' = jn
                    · subst hcm
                      refine wp_region_grown w7 (Frm.refl _ _) (by kernel_rfl) (by kernel_rfl) ?_
                      repeat (go_big_quiet_step (first
                        | (go_at_call_of 17 A'; refine Calls.grown_of (same_any _ _ _ _ _ _ ys _ HY.out.1 (hsl1.out.new_ (grf _)).rd (HR.out.new_ (grf _)).rd hmm))
                        | (go_at_call_of 17 A''; refine Calls.grown_of (same_any _ 0 _ _ _ _ [] _ (fun _ h => nomatch h) (Rd.nil _ 0 _ _) (Rd.nil _ 0 _ _) (by omega)))))
                      refine wpQuiet_nil ?_
                      intro wq hq
                      go_wp2_with fail
                      go_meet
                      exact ⟨rfl, hq⟩
                    · have hle := HR.out.le
                      have b7 : (jn : Int) ≤ (c2' : Int) := by omega
                      have b8 : (0 : Int) ≤ (jn : Int) := by omega
                      clear hle
                      refine wp_region_grown w7 (Frm.refl _ _) (by kernel_rfl) (by kernel_rfl) ?_
                      repeat (go_big_quiet_step (first
                        | (go_at_call_of 17 A'; refine Calls.grown_of (same_any _ _ _ _ _ _ ys _ HY.out.1 (hsl1.out.new_ (grf _)).rd (HR.out.new_ (grf _)).rd hmm))
                        | (go_at_call_of 17 A''; refine Calls.grown_of (same_any _ 0 _ _ _ _ [] _ (fun _ h => nomatch h) (Rd.nil _ 0 _ _) (Rd.nil _ 0 _ _) (by omega)))))
                      refine wpQuiet_nil ?_
                      intro wq hq
                      go_wp2_with fail
                      go_meet
                      exact ⟨rfl, hq⟩
                · have b2 : ¬ (jn : Int) ≤ (m : Int) := by omega
                  have b5 : (m : Int) ≤ (jn : Int) := by omega
                  rcases HR.out.row with ⟨rfl, hc0⟩ | ⟨g2, off2, rfl, _⟩
                  · subst hc0
                    obtain rfl : m = 0 := by have := HR.out.le; omega
                    refine wp_region_grown w7 (Frm.refl _ _) (by kernel_rfl) (by kernel_rfl) ?_
                    repeat (go_big_quiet_step (first
                      | (go_at_call_of 17 A'; refine Calls.grown_of (same_any _ _ _ _ _ _ ys _ HY.out.1 (hsl1.out.new_ (grf _)).rd (HR.out.new_ (grf _)).rd hmm))
                      | (go_at_call_of 17 A''; refine Calls.grown_of (same_any _ 0 _ _ _ _ [] _ (fun _ h => nomatch h) (Rd.nil _ 0 _ _) (Rd.nil _ 0 _ _) (by omega)))))
                    refine wpQuiet_nil ?_
                    intro wq hq
                    go_wp2_with fail
                    go_meet
                    exact ⟨rfl, hq⟩
                  · by_cases hcm : c2' = m
                    · subst hcm
                      refine wp_region_grown w7 (Frm.refl _ _) (by kernel_rfl) (by kernel_rfl) ?_
                      repeat (go_big_quiet_step (first
                        | (go_at_call_of 17 A'; refine Calls.grown_of (same_any _ _ _ _ _ _ ys _ HY.out.1 (hsl1.out.new_ (grf _)).rd (HR.out.new_ (grf _)).rd hmm))
                        | (go_at_call_of 17 A''; refine Calls.grown_of (same_any _ 0 _ _ _ _ [] _ (fun _ h => nomatch h) (Rd.nil _ 0 _ _) (Rd.nil _ 0 _ _) (by omega)))))
                      refine wpQuiet_nil ?_
                      intro wq hq
                      go_wp2_with fail
                      go_meet
                      exact ⟨rfl, hq⟩
                    · have hle := HR.out.le
                      have b7 : (m : Int) ≤ (c2' : Int) := by omega
                      have b8 : (0 : Int) ≤ (m : Int) := by omega
                      clear hle
                      refine wp_region_grown w7 (Frm.refl _ _) (by kernel_rfl) (by kernel_rfl) ?_
                      repeat (go_big_quiet_step (first
                        | (go_at_call_of 17 A'; refine Calls.grown_of (same_any _ _ _ _ _ _ ys _ HY.out.1 (hsl1.out.new_ (grf _)).rd (HR.out.new_ (grf _)).rd hmm))
                        | (go_at_call_of 17 A''; refine Calls.grown_of (same_any _ 0 _ _ _ _ [] _ (fun _ h => nomatch h) (Rd.nil _ 0 _ _) (Rd.nil _ 0 _ _) (by omega)))))
                      refine wpQuiet_nil ?_
                      intro wq hq
                      go_wp2_with fail
                      go_meet
                      exact ⟨rfl, hq⟩
          case rest =>
            obtain ⟨rfl, hq7⟩ := hcut
            have T6 := Lib.hid (T5.out.new_ hq7)
            have sa := Lib.hid ((hsl1.out.new_ hq7).mono (Nat.zero_le _))
            have sb := Lib.hid ((hsl2.out.new_ hq7).mono (Nat.zero_le _))
            clear hq7 hsl hsl1 hsl2 f56 f67 T3 T4 T5 HD HR ch CA hdl hmm2
            go_wp2_with fail
            go_loopw [10] (fun x wr => ∃ (k2 : Nat) (zs : List Value), x = .int .i64 k2 ∧ k2 ≤ m ∧ Two w wr (w.heap.size + 2) w.heap.size (w.heap.size + 1) A1' c1' A2' c2' ys ys ∧ Sl wr 0 7 A' m m zs ∧ Sl wr 0 7 A'' sn sn ((ys.drop jn).flatMap Nt.P)) (fun x _ => m - (intOf x).toNat)
            case atStart => exact ⟨0, _, rfl, Nat.zero_le _, T6.out, sa.out, sb.out⟩
            case round =>
              clear T6 sa sb
              obtain ⟨k2, zs, rfl, hk2, hT2, hs1, hs2⟩ := hrel
              by_cases hlt2 : k2 < m
              · obtain ⟨gA, oA, rfl, _, _, hcA, hfA⟩ := hs1.form (by omega)
                obtain ⟨a1, a2, a3, a4, a5⟩ := ap1.out gA ((blk_some _ _ _).2 rfl)
                have hzl : k2 * 7 + 1 < zs.length := by rw [hs1.len]; omega
                obtain ⟨z, hz⟩ : ∃ z, zs[k2 * 7 + 1]? = some z := ⟨_, List.getElem?_eq_getElem hzl⟩
                have d1 := hcA (k2 * 7 + 1) z hz
                have d2 := hfA (k2 * 7 + 1)
                rw [← Nat.add_assoc] at d1 d2
                have N1 := Lib.hid (Two.store hT2 ⟨gA, oA + k2 * 7 + 1, none⟩ (.int .i64 (-99)) a1 a2 a3 a4 a5)
                have N2 := hs1.set hzl (.int .i64 (-99))
                rw [← Nat.add_assoc] at N2
                replace N2 := Lib.hid N2
                have N3 := Lib.hid (hs2.setCell (p := ⟨gA, oA + k2 * 7 + 1, none⟩) (dsj.out gA ((blk_some _ _ _).2 rfl)) (.int .i64 (-99)))
                have i0 : (0 : Int) ≤ (k2 : Int) := by omega
                have i1 : (k2 : Int) < (m : Int) := by omega
                clear hT2 hs1 hs2 hcA hfA a1 a2 a3 a4 a5 hz hzl
                go_wp2_with fail
                go_roundw
                case rel => exact ⟨k2 + 1, _, by go_num, by omega, N1.out, N2.out, N3.out⟩
                case measure => simp [intOf]; omega
              · obtain rfl : k2 = m := by omega
                replace hT2 := Lib.hid hT2
                replace hs2 := Lib.hid hs2
                clear hs1
                go_wp2_with fail
                go_loopw [11] (fun x wr => ∃ (k3 : Nat) (zs : List Value), x = .int .i64 k3 ∧ k3 ≤ sn ∧ Two w wr (w.heap.size + 2) w.heap.size (w.heap.size + 1) A1' c1' A2' c2' ys ys ∧ Sl wr 0 7 A'' sn sn zs) (fun x _ => sn - (intOf x).toNat)
                case atStart => exact ⟨0, _, rfl, Nat.zero_le _, hT2.out, hs2.out⟩
                case round =>
                  clear hT2 hs2
                  obtain ⟨k3, zs3, rfl, hk3, hT3, hs3⟩ := hrel
                  by_cases hlt3 : k3 < sn
                  · obtain ⟨gB, oB, rfl, _, _, hcA, hfA⟩ := hs3.form (by omega)
                    obtain ⟨a1, a2, a3, a4, a5⟩ := ap2.out gB ((blk_some _ _ _).2 rfl)
                    have hzl : k3 * 7 + 1 < zs3.length := by rw [hs3.len]; omega
                    obtain ⟨z, hz⟩ : ∃ z, zs3[k3 * 7 + 1]? = some z := ⟨_, List.getElem?_eq_getElem hzl⟩
                    have d1 := hcA (k3 * 7 + 1) z hz
                    have d2 := hfA (k3 * 7 + 1)
                    rw [← Nat.add_assoc] at d1 d2
                    have N1 := Lib.hid (Two.store hT3 ⟨gB, oB + k3 * 7 + 1, none⟩ (.int .i64 (-98)) a1 a2 a3 a4 a5)
                    have N2 := hs3.set hzl (.int .i64 (-98))
                    rw [← Nat.add_assoc] at N2
                    replace N2 := Lib.hid N2
                    have i0 : (0 : Int) ≤ (k3 : Int) := by omega
                    have i1 : (k3 : Int) < (sn : Int) := by omega
                    clear hT3 hs3 hcA hfA a1 a2 a3 a4 a5 hz hzl
                    go_wp2_with fail
                    go_roundw
                    case rel => exact ⟨k3 + 1, _, by go_num, by omega, N1.out, N2.out⟩
                    case measure => simp [intOf]; omega
                  · obtain rfl : k3 = sn := by omega
                    replace hT3 := Lib.hid hT3
                    clear hs3
                    go_wp2_with fail
                    go_roundw
                    case rel => exact ⟨k + 1, A1', c1', A2', c2', by go_num, by omega, by rw [HYM.out.1]; exact hT3.out⟩
                    case measure => simp [intOf]; omega
      · obtain rfl : k = len := by omega
        obtain ⟨ys, hys⟩ : ∃ ys, st N k = ys := ⟨_, rfl⟩
        have hoks : Oks ys := by rw [← hys]; exact st_ok HN.out k (Nat.le_refl _)
        have hl200 : ys.length ≤ 200 := by have h1 := st_len N k; rw [hys] at h1; have := L200.out; omega
        have hfewY : Few ys.length := ⟨by omega⟩
        have hmm : ys.length ≤ 9223372036854775807 := by omega
        have HY := Lib.hid (And.intro hoks hfewY)
        rw [hys] at T
        have h0 := T.out.r.lst.head
        clear hoks hfewY hys hl200
        go_wp2_with fail
        go_region_with (first
          | (go_at_call 15; refine (all_any _ _ _ _ ys _ (T.out.new_ (by (repeat (first | exact Frm.refl _ _ | apply Frm.drew | apply Frm.drewN | apply Frm.alloc)))).p.le (T.out.new_ (by (repeat (first | exact Frm.refl _ _ | apply Frm.drew | apply Frm.drewN | apply Frm.alloc)))).p.lst HY.out.2).mono ?_; rintro e w6 ⟨A', rfl, hsl, hf⟩; have T4 := Lib.hid ((T.out.new_ (by (repeat (first | exact Frm.refl _ _ | apply Frm.drew | apply Frm.drewN | apply Frm.alloc)))).new_ hf); have h6 := T4.out.r.lst.head; replace hsl := Lib.hid hsl; clear hf)
          | (go_at_call 17; refine (same_any w6.heap.size _ _ _ _ _ ys w6 HY.out.1 hsl.out.rd T4.out.r.lst.sl.rd hmm).mono ?_; rintro e w7 ⟨rfl, hf⟩; have T5 := Lib.hid (T4.out.new_ hf); clear hf)
          | (go_at_call 11; refine (lives_any _ (HT.out.frm T5.out.p.frm id)).mono ?_; rintro e w8 ⟨rfl, hf⟩; have T6 := Lib.hid (T5.out.new_ hf); clear hf))
        all_goals
          go_wp2_with fail
          go_ret
          exact ⟨rfl, T6.out.p.frm⟩
end Go.Proofs.YtllicaibgjjidaaDoor.Ply
