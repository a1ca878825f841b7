import Derived.Test.YtmjpaaippilioaaDoorPiL
import Derived.Test.YtmjpaaippilioaaDoorPhJ
import Derived.Test.YtmjpaaippilioaaDoorPiE
namespace Go.Proofs.YtmjpaaippilioaaDoor
open Go.RowKit

/-! ### things that are held, as the document has them -/
def KT (q : Th) : Prop := 0 ≤ q.2 ∧ q.2 < 26
abbrev thW (q : Th) : ByteArray := (Ut q.2.toNat).word
def thC (q : Th) : List Value := [.int .u32 q.1, .string (thW q)]
theorem thC_len (q : Th) : (thC q).length = 2 := rfl
abbrev thV (l : List Th) : List Value := l.flatMap thC
theorem thV_one (l : List Th) : ∀ u ∈ thV l, u.oneCell' = true := by
  intro u hu
  obtain ⟨q, _, hq⟩ := List.mem_flatMap.1 hu
  simp [thC] at hq
  rcases hq with rfl | rfl <;> rfl
abbrev thS (q : Th) : Value := .agg #[.int .u32 q.1, .string (thW q)]
theorem word_inj : ∀ i, i < 26 → ∀ j, j < 26 → decide ((Ut i).word.toList = (Ut j).word.toList) = decide (i = j) := by decide +kernel
theorem info102 : (Tryd.prog.info? 102).map (fun i => (i.zero, i.size, i.bytes)) = some (some (.agg #[.int .u32 0, .string ⟨#[]⟩]), 2, 24) := by kernel_rfl
theorem th_eq {x y : Th} (hx : KT x) (hy : KT y) : (decide (x.1 = y.1) && decide ((thW x).toList = (thW y).toList)) = decide (x = y) := by
  obtain ⟨x1, x2⟩ := x
  obtain ⟨y1, y2⟩ := y
  obtain ⟨h1, h2⟩ := hx
  obtain ⟨h3, h4⟩ := hy
  simp only at h1 h2 h3 h4
  obtain ⟨i, rfl⟩ := Int.eq_ofNat_of_zero_le h1
  obtain ⟨j, rfl⟩ := Int.eq_ofNat_of_zero_le h3
  show (decide (x1 = y1) && decide ((Ut (Int.toNat i)).word.toList = (Ut (Int.toNat j)).word.toList)) = _
  rw [Int.toNat_natCast, Int.toNat_natCast, word_inj i (by omega) j (by omega)]
  by_cases ha : x1 = y1 <;> by_cases hb : i = j <;> simp [ha, hb] <;> omega
theorem eql102 (x y : Th) (hx : KT x) (hy : KT y) (w : World) : (binOp .eql 102 (thS x) (thS y)).run Tryd.prog w = .ok (.bool (decide (x = y))) w := by
  have e : (Op.equalIn 10000 102 (thS x) (thS y)).run Tryd.prog w = .ok (decide (x = y)) w := by
    rw [run_equalIn_agg _ 9999 102 _ _ (by kernel_rfl) (by kernel_rfl)]
    simp [Program.fieldsOf, Tryd.underlying102, Op.eqFields, go_sem]
    go_simp
    rw [← th_eq hx hy]
    by_cases h1 : x.1 = y.1 <;> by_cases h2 : (thW x).toList = (thW y).toList <;> simp [h1, h2]
  rw [run_eql_struct, e]
  rfl
theorem eqg102 (op : BinOp) (x y : Operand) (a b : Array Value) (w : World) : (eqGuard op 102 x y (.agg a) (.agg b)).run Tryd.prog w = .ok () w :=
  run_eqGuard_agg w op 102 x y _ _ (by kernel_rfl)
/-! ### above -/
set_option maxRecDepth 100000 in
theorem above_any (A : Option Addr) (n c : Nat) (l : List Th) (a : Int) (w : World) (hr : Rd w w.heap.size 2 A n (thV l)) (hn : (n : Int) ≤ 1000) :
    Calls Tryd.prog 66 #[.slice A n c, .int .u32 a] w fun e w' => e = .returned (.bool (l.all fun k => decide (k.1 < a))) ∧ w = w' := by
  obtain ⟨hxl, hxc⟩ := Rd.rows thC_len (by decide) hr
  have HXL := Lib.hid hxl
  have HXC := Lib.hid hxc
  clear hr hxl hxc
  go_enter Tryd.func66, Tryd.ntmps66
  go_wp2_with fail
  go_loopw [5] (fun i wr => ∃ j : Nat, i = .int .i64 j ∧ j ≤ n ∧ ((l.take j).all fun k => decide (k.1 < a)) = true ∧ w = wr) (fun i _ => n - (intOf i).toNat)
  case atStart => exact ⟨0, rfl, Nat.zero_le _, rfl, rfl⟩
  case round =>
    obtain ⟨j, rfl, hj, hal, hw⟩ := hrel
    subst hw
    have HAL := Lib.hid hal
    have j0 : (0 : Int) ≤ (j : Int) := by omega
    have j1 : (j : Int) ≤ (n : Int) := by omega
    clear hal
    by_cases hlt : j < n
    · have j2 : (j : Int) < (n : Int) := by omega
      obtain ⟨g, off, rfl, -, hc⟩ := HXC.out (by omega)
      have hjl : j < l.length := by have := HXL.out; omega
      have c0 := hc j hjl 0 _ rfl
      have e : l.take (j + 1) = l.take j ++ [l[j]] := List.take_succ_eq_append_getElem hjl
      have hall : l = l.take j ++ (l[j] :: l.drop (j + 1)) := by rw [List.getElem_cons_drop, List.take_append_drop]
      obtain ⟨X, hX⟩ : ∃ X, l[j] = X := ⟨_, rfl⟩
      rw [hX] at c0 e hall
      obtain ⟨xa, xk⟩ := X
      have HE := Lib.hid e
      have HLL := Lib.hid hall
      simp only [Nat.add_zero] at c0
      clear hc hX e hall
      by_cases hge : a ≤ xa
      · have hd : decide (a ≤ xa) = true := decide_eq_true hge
        go_wp2_with fail
        go_ret
        refine ⟨?_, rfl⟩
        have : (l.all fun k => decide (k.1 < a)) = false := by
          rw [HLL.out, List.all_append, List.all_cons]
          rw [show decide (xa < a) = false from decide_eq_false (by omega)]
          simp
        rw [this]
        rfl
      · have hd : decide (a ≤ xa) = false := decide_eq_false hge
        go_wp2_with fail
        go_roundw
        case rel =>
          refine ⟨j + 1, by go_num, by omega, ?_, trivial⟩
          rw [HE.out, List.all_append, HAL.out]
          simp; omega
        case measure => simp [intOf]; omega
    · obtain rfl : j = n := by omega
      have hl : l.take j = l := List.take_of_length_le (by have := HXL.out; omega)
      go_wp2_with fail
      go_ret
      refine ⟨?_, rfl⟩
      have h := HAL.out
      rw [hl] at h
      rw [h]
      rfl
/-! ### without -/
theorem step_append_none {P : Program} {w : World} {ops : Array Oper} {o : Oper} {a : Act} {K : Act → World → Prop} {Q : Exit → Act → World → Prop} {E : Prop} (hgd : o.guard = none) (x : Operand) (t : TypeId)
    (ho : o.op = .call { callee := .builtin .append, args := #[.const (.slice none 0 0), x], argTypes := #[t, t] })
    (B : Nat) (e : TypeId) (i : TypeInfo) (z : Value) (size bytes : Nat) (ht : P.underlying t = some (.slice e)) (hi : P.info? e = some i) (hz : i.zero = some z)
    (hsize : i.size = size) (hby : i.bytes = bytes) (hzs : z.cells.size = size) (hsz : 0 < size)
    (X : Option Addr) (m c : Nat) (news : List Value) (hx : a.eval x = .slice X m c) (hr : Rd w w.heap.size size X m news) (h1 : ∀ u ∈ news, u.oneCell' = true)
    (h63 : m ≤ maxLen) (hbytes : m * bytes ≤ 140737488355328) (hB : B ≤ w.heap.size)
    (hK : ∀ A' cap' w', Appended w w' B size none A' m cap' news → K (a.put o.dst (.slice A' m cap')) w') : if Region.wanted o (yielded ops a.tmps) = true then Oper.wp P o a w K Q else E := by
  refine step_append_sl w hgd (.const (.slice none 0 0)) x t ho B e i z size bytes ht hi hz hsize hby hzs hsz none 0 0 [] rfl (Sl.nil _ _ _) X m c news hx hr h1 (by rw [Nat.zero_add]; exact h63) (by rw [Nat.zero_add]; exact hbytes) hB ?_
  intro A' cap' w' hap
  rw [Nat.zero_add] at hap ⊢
  exact hK A' cap' w' hap
theorem flat_take2 : ∀ (l : List Th) (j : Nat), (thV l).take (j * 2) = thV (l.take j)
  | [], j => by simp
  | x :: r, 0 => by simp
  | x :: r, j + 1 => by
    have := flat_take2 r j
    simp only [thV] at this
    simp [thC, Nat.add_mul, this]
theorem flat_drop2 : ∀ (l : List Th) (j : Nat), thV (l.drop j) = (thV l).drop (j * 2)
  | [], j => by simp
  | x :: r, 0 => by simp
  | x :: r, j + 1 => by
    have := flat_drop2 r j
    simp only [thV] at this
    simp [thC, Nat.add_mul, this]
theorem erase_at (l : List Th) (j : Nat) (h : j < l.length) (hn : l[j] ∉ l.take j) : l.erase l[j] = l.take j ++ l.drop (j + 1) := by
  have e : l = l.take j ++ (l[j] :: l.drop (j + 1)) := by rw [List.getElem_cons_drop, List.take_append_drop]
  obtain ⟨x, hx⟩ : ∃ x, l[j] = x := ⟨_, rfl⟩
  rw [hx] at e hn ⊢
  conv => lhs; rw [e]
  rw [List.erase_append_right _ hn, List.erase_cons_head]
/-- What 'without' returns. -/
def WoPost (l : List Th) (p : Th) (A : Option Addr) (n c : Nat) (w : World) (e : Ending) (w' : World) : Prop :=
  (p ∈ l ∧ ∃ A' c', e = .returned (.tuple #[.slice A' (n - 1) c', .bool true]) ∧ Sl w' w.heap.size 2 A' (n - 1) c' (thV (l.erase p))) ∨ (p ∉ l ∧ e = .returned (.tuple #[.slice A n c, .bool false]))
set_option maxRecDepth 100000 in
set_option maxHeartbeats 2000000 in
theorem without_any (A : Option Addr) (n c : Nat) (l : List Th) (p : Th) (w : World) (hr : Rd w w.heap.size 2 A n (thV l)) (hnc : n ≤ c) (hcm : c ≤ maxLen) (hn : (n : Int) ≤ 1000) (hK : ∀ q ∈ l, KT q) (hp : KT p) :
    Calls Tryd.prog 67 #[.slice A n c, thS p] w fun e w' => WoPost l p A n c w e w' ∧ Frm w w' fun _ => False := by
  obtain ⟨i102, hi, hz0, hz1, hz2⟩ := info_parts info102
  obtain ⟨hxl, hxc⟩ := Rd.rows thC_len (by decide) hr
  have HR := Lib.hid hr
  have HXL := Lib.hid hxl
  have HXC := Lib.hid hxc
  have HKL := Lib.hid hK
  have HKP := Lib.hid hp
  have HCM := Lib.hid hcm
  have eqg := eqg102
  have EQ := Lib.hid fun (q : Th) (hq : q ∈ l) (v : World) => eql102 q p (hK q hq) hp v
  unfold thS at EQ ⊢
  obtain ⟨pa, hpa⟩ : ∃ a, p.1 = a := ⟨_, rfl⟩
  obtain ⟨T, hT⟩ : ∃ T, thW p = T := ⟨_, rfl⟩
  rw [hpa, hT]
  simp only [hpa, hT] at EQ
  clear hr hxl hxc hK hp hcm hpa hT
  go_enter Tryd.func67, Tryd.ntmps67
  go_upto_region 1 with fail
  refine at_world' ?_
  intro W hW
  have hF : Frm w W fun _ => False := by rw [hW]; exact (Frm.refl _ _).alloc _
  have p0 : W.cell? ⟨w.heap.size, 0, none⟩ = some (.int .u32 pa) := by subst hW; go_simp
  have p1 : W.cell? ⟨w.heap.size, 1, none⟩ = some (.string T) := by subst hW; go_simp
  have HF := Lib.hid hF
  have P0 := Lib.hid p0
  have P1 := Lib.hid p1
  obtain ⟨b, hb⟩ : ∃ b, w.heap.size = b := ⟨_, rfl⟩
  have HB := Lib.hid hb
  rw [hb] at P0 P1 ⊢
  clear hW hb hF p0 p1
  go_wp2_with fail
  go_loopw [6] (fun i wr => ∃ j : Nat, i = .int .i64 j ∧ j ≤ n ∧ p ∉ l.take j ∧ Frm W wr fun _ => False) (fun i _ => n - (intOf i).toNat)
  case atStart => exact ⟨0, rfl, Nat.zero_le _, by simp, Frm.refl _ _⟩
  case round =>
    obtain ⟨j, rfl, hj, hno, hFr⟩ := hrel
    have F := Lib.hid hFr
    have HNO := Lib.hid hno
    have j0 : (0 : Int) ≤ (j : Int) := by omega
    have j1 : (j : Int) ≤ (n : Int) := by omega
    have q0 : wr.cell? ⟨b, 0, none⟩ = some (.int .u32 pa) := F.out.cell P0.out id
    have q1 : wr.cell? ⟨b, 1, none⟩ = some (.string T) := F.out.cell P1.out id
    clear hno hFr
    by_cases hlt : j < n
    · have j2 : (j : Int) < (n : Int) := by omega
      obtain ⟨g, off, rfl, -, hc⟩ := HXC.out (by omega)
      have hjl : j < l.length := by have := HXL.out; omega
      have c0 : wr.cell? ⟨g, off + j * 2, none⟩ = some (.int .u32 l[j].1) := F.out.cell (HF.out.cell (hc j hjl 0 _ rfl) id) id
      have c1 : wr.cell? ⟨g, off + j * 2 + 1, none⟩ = some (.string (thW l[j])) := F.out.cell (HF.out.cell (hc j hjl 1 _ rfl) id) id
      have eqn := EQ.out l[j] (List.getElem_mem hjl)
      have e : l.take (j + 1) = l.take j ++ [l[j]] := List.take_succ_eq_append_getElem hjl
      have her := erase_at l j hjl
      have hmem : l[j] ∈ l := List.getElem_mem hjl
      obtain ⟨X, hX⟩ : ∃ X, l[j] = X := ⟨_, rfl⟩
      rw [hX] at c0 c1 e her eqn hmem
      obtain ⟨xa, hxa⟩ : ∃ a, X.1 = a := ⟨_, rfl⟩
      obtain ⟨TX, hTX⟩ : ∃ T, thW X = T := ⟨_, rfl⟩
      simp only [hxa, hTX] at c0 c1 eqn
      have HE := Lib.hid e
      have HER := Lib.hid her
      have HME := Lib.hid hmem
      clear hc hX e her hxa hTX hmem
      have C0 := Lib.hid c0
      have C1 := Lib.hid c1
      have Q0 := Lib.hid q0
      have Q1 := Lib.hid q1
      clear c0 c1 q0 q1
      by_cases hXp : X = p
      · have hd : decide (X = p) = true := decide_eq_true hXp
        rw [hd] at eqn
        have HXP := Lib.hid hXp
        have hmx : n ≤ 1000 := by omega
        clear hXp hd
        go_upto_region 4 with fail
        have c0 := Grown.cell C0.out
        have c1 := Grown.cell C1.out
        have q0 := Grown.cell Q0.out
        have q1 := Grown.cell Q1.out
        refine wp_region_grown wr (Frm.refl _ _) (by kernel_rfl) (by kernel_rfl) ?_
        repeat (go_big_quiet_step (fail))
        refine wpQuiet_nil ?_
        intro wq hq2
        have FQ := Lib.hid ((HF.out.then_ F.out).then_ hq2)
        clear hq2 c0 c1 q0 q1
        go_upto_region 5 with fail
        have hwk : IntKind.i64.wrap ((j : Int) + 1) = (j : Int) + 1 := IntWalk.i64_in _ (by omega)
        have jc : (j : Int) ≤ (c : Int) := by omega
        have jn : (j : Int) + 1 ≤ (n : Int) := by omega
        have nc : (n : Int) ≤ (c : Int) := by omega
        obtain ⟨r1, r2⟩ : j ≤ maxLen ∧ j * 24 ≤ 140737488355328 := by unfold maxLen; omega
        obtain ⟨s1, s2⟩ : j + (n - (j + 1)) ≤ maxLen ∧ (j + (n - (j + 1))) * 24 ≤ 140737488355328 := by unfold maxLen; omega
        have hl1 : (thV (l.take j)).length = j * 2 := by rw [flat_len thC 2 thC_len, List.length_take, Nat.min_eq_left (by have := HXL.out; omega)]
        have hRF : Rd wq wq.heap.size 2 (some ⟨g, off, none⟩) j (thV (l.take j)) := by
          have := ((HR.out.short (m := j) (by omega)).new_ FQ.out)
          rw [flat_take2] at this
          exact this
        have hRS : Rd wq wq.heap.size 2 (some ⟨g, off + (j + 1) * 2, none⟩) (n - (j + 1)) (thV (l.drop (j + 1))) := by
          have h1 := HR.out.new_ FQ.out
          obtain ⟨g', off', e, hb, hc⟩ := h1.2 (by rw [h1.1]; omega)
          injection e with e
          injection e with e1 e2
          subst e1 e2
          refine ⟨by rw [flat_len thC 2 thC_len, List.length_drop]; have := HXL.out; omega, fun _ => ⟨g, off + (j + 1) * 2, rfl, hb, fun i u hu => ?_⟩⟩
          rw [Nat.add_assoc]
          refine hc _ u ?_
          rw [← hu, flat_drop2, List.getElem?_drop]
        have RF := Lib.hid hRF
        have RS := Lib.hid hRS
        have hmc := HCM.out
        have hcx : (c : Int) ≤ 9223372036854775807 := by unfold maxLen at hmc; omega
        have j00 : (0 : Int) ≤ (j : Int) + 1 := by omega
        clear hl1 hRF hRS hmc
        by_cases hcj : c = j + 1
        · have jj : (j : Int) ≤ (j : Int) + 1 := by omega
          have edr : l.drop (j + 1) = [] := List.drop_eq_nil_of_le (by have := HXL.out; omega)
          have hn1 : n - 1 = j := by omega
          have HN1 := Lib.hid hn1
          have EDR := Lib.hid edr
          obtain ⟨z1, z2⟩ : j + 0 ≤ maxLen ∧ (j + 0) * 24 ≤ 140737488355328 := ⟨r1, r2⟩
          clear hn1 edr
          subst hcj
          go_region_law (first
            | (refine step_append_none rfl (.tmp 21) 95 rfl wq.heap.size 102 i102 _ 2 24 Tryd.underlying95 hi hz0 hz1 hz2 rfl (by decide) (some ⟨g, off, none⟩) j (j + 1) (thV (l.take j)) (by go_simp) RF.out (thV_one _) r1 r2 (Nat.le_refl _) ?_; intro A5 c5 w5 hap; replace hap := Lib.hid hap)
            | (refine step_append_sl _ rfl (.tmp 22) (.tmp 26) 95 rfl wq.heap.size 102 i102 _ 2 24 Tryd.underlying95 hi hz0 hz1 hz2 rfl (by decide) A5 j c5 (thV (l.take j)) (by go_simp) hap.out.1 (some ⟨g, off, none⟩) 0 0 [] (by go_simp) (Rd.nil _ _ _ _) (fun u hu => by cases hu) z1 z2 hap.out.2.1.size ?_; intro A6 c6 w6 hap2; replace hap2 := Lib.hid hap2))
          all_goals
            dsimp [Act.put]
            go_wp2_with fail
            go_ret2
            have hF : Frm w w6 fun _ => False := FQ.out.then_ (((Frm.refl wq fun _ => False).drew.then_ (hap.out.2.1.mono fun _ _ h => blk_none _ h)).trans hap2.out.2.1 (fun q hq h => by
              rcases hap.out.2.2 q h with h | h
              · exact blk_none _ h
              · exact absurd hq (Nat.not_lt.2 h)))
            have h1 := (hap2.out.1).mono FQ.out.size
            have hno := HNO.out
            have her := HER.out (by rw [HXP.out]; exact hno)
            rw [HXP.out] at her
            rw [List.append_nil] at h1
            rw [EDR.out, List.append_nil] at her
            refine ⟨.inl ⟨by have h := HME.out; rw [HXP.out] at h; exact h, A6, c6, ?_, ?_⟩, hF⟩
            · rw [HN1.out]; rfl
            · rw [her, HN1.out]; exact h1
        · go_region_law (first
            | (refine step_append_none rfl (.tmp 21) 95 rfl wq.heap.size 102 i102 _ 2 24 Tryd.underlying95 hi hz0 hz1 hz2 rfl (by decide) (some ⟨g, off, none⟩) j c (thV (l.take j)) (by go_simp) RF.out (thV_one _) r1 r2 (Nat.le_refl _) ?_; intro A5 c5 w5 hap; replace hap := Lib.hid hap)
            | (refine step_append_sl _ rfl (.tmp 22) (.tmp 26) 95 rfl wq.heap.size 102 i102 _ 2 24 Tryd.underlying95 hi hz0 hz1 hz2 rfl (by decide) A5 j c5 (thV (l.take j)) (by go_simp) hap.out.1 (some ⟨g, off + (j + 1) * 2, none⟩) (n - (j + 1)) (c - (j + 1)) (thV (l.drop (j + 1))) (by go_simp) (RS.out.new_ ((Frm.refl wq fun _ => False).drew.then_ (hap.out.2.1.mono fun _ _ h => blk_none _ h))) (thV_one _) s1 s2 hap.out.2.1.size ?_; intro A6 c6 w6 hap2; replace hap2 := Lib.hid hap2))
          all_goals
            dsimp [Act.put]
            go_wp2_with fail
            go_ret2
            have hF : Frm w w6 fun _ => False := FQ.out.then_ (((Frm.refl wq fun _ => False).drew.then_ (hap.out.2.1.mono fun _ _ h => blk_none _ h)).trans hap2.out.2.1 (fun q hq h => by
              rcases hap.out.2.2 q h with h | h
              · exact blk_none _ h
              · exact absurd hq (Nat.not_lt.2 h)))
            have h1 := (hap2.out.1).mono FQ.out.size
            have hno := HNO.out
            have her := HER.out (by rw [HXP.out]; exact hno)
            rw [HXP.out] at her
            rw [show thV (l.take j) ++ thV (l.drop (j + 1)) = thV (l.take j ++ l.drop (j + 1)) from List.flatMap_append.symm, ← her, show j + (n - (j + 1)) = n - 1 by omega] at h1
            exact ⟨.inl ⟨by have h := HME.out; rw [HXP.out] at h; exact h, A6, c6, by rw [show n - 1 = j + (n - (j + 1)) by omega]; rfl, h1⟩, hF⟩
      · have hd : decide (X = p) = false := decide_eq_false hXp
        rw [hd] at eqn
        have HXP := Lib.hid hXp
        clear hXp hd
        go_upto_region 4 with fail
        have c0 := Grown.cell C0.out
        have c1 := Grown.cell C1.out
        have q0 := Grown.cell Q0.out
        have q1 := Grown.cell Q1.out
        refine wp_region_grown wr (Frm.refl _ _) (by kernel_rfl) (by kernel_rfl) ?_
        repeat (go_big_quiet_step (fail))
        refine wpQuiet_nil ?_
        intro wq hq2
        have FQ := Lib.hid (F.out.then_ hq2)
        clear hq2 c0 c1 q0 q1
        go_wp2_with fail
        go_roundw
        case rel =>
          refine ⟨j + 1, by go_num, by omega, ?_, FQ.out⟩
          rw [HE.out, List.mem_append, List.mem_singleton]
          rintro (h | h)
          · exact HNO.out h
          · exact HXP.out h.symm
        case measure => simp [intOf]; omega
    · obtain rfl : j = n := by omega
      have hl : l.take j = l := List.take_of_length_le (by have := HXL.out; omega)
      go_wp2_with fail
      go_ret2
      exact ⟨.inr ⟨by rw [← hl]; exact HNO.out, rfl⟩, HF.out.then_ F.out⟩
end Go.Proofs.YtmjpaaippilioaaDoor
namespace Go.Proofs.YtmjpaaippilioaaDoor
open Go.RowKit

/-! ### turn: which way a word asks for, which one comes of it -/
def turnO (w : ByteArray) : ByteArray × ByteArray :=
  if w.toList == [117, 110, 108, 111, 99, 107] then (⟨#[108, 111, 99, 107]⟩, ⟨#[]⟩) else
  if w.toList == [117, 110, 114, 101, 97, 100] then (⟨#[114, 101, 97, 100]⟩, ⟨#[]⟩) else
  if w.toList == [117, 110, 117, 112, 103, 114] then (⟨#[117, 112, 103, 114]⟩, ⟨#[]⟩) else
  if w.toList == [117, 110, 119, 114, 105, 116, 101] then (⟨#[119, 114, 105, 116, 101]⟩, ⟨#[]⟩) else
  if w.toList == [100, 111, 119, 110] then (⟨#[119, 114, 105, 116, 101]⟩, ⟨#[114, 101, 97, 100]⟩) else
  if w.toList == [115, 111, 102, 116] then (⟨#[119, 114, 105, 116, 101]⟩, ⟨#[117, 112, 103, 114]⟩) else
  if w.toList == [108, 111, 111, 115, 101] then (⟨#[117, 112, 103, 114]⟩, ⟨#[114, 101, 97, 100]⟩) else
  (⟨#[]⟩, ⟨#[]⟩)
set_option maxRecDepth 100000 in
set_option maxHeartbeats 2000000 in
theorem turn_ref (x : ByteArray) (w : World) : Calls Tryd.prog 64 #[.string x] w fun e w' => e = .returned (.tuple #[.string (turnO x).1, .string (turnO x).2]) ∧ w = w' := by
  unfold turnO
  cases h0 : (x.toList == [117, 110, 108, 111, 99, 107]) with
  | true =>
    go_enter Tryd.func64, Tryd.ntmps64
    go_wp2_with fail
    go_ret2
    exact ⟨rfl, rfl⟩
  | false =>
    cases h1 : (x.toList == [117, 110, 114, 101, 97, 100]) with
    | true =>
      go_enter Tryd.func64, Tryd.ntmps64
      go_wp2_with fail
      go_ret2
      exact ⟨rfl, rfl⟩
    | false =>
      cases h2 : (x.toList == [117, 110, 117, 112, 103, 114]) with
      | true =>
        go_enter Tryd.func64, Tryd.ntmps64
        go_wp2_with fail
        go_ret2
        exact ⟨rfl, rfl⟩
      | false =>
        cases h3 : (x.toList == [117, 110, 119, 114, 105, 116, 101]) with
        | true =>
          go_enter Tryd.func64, Tryd.ntmps64
          go_wp2_with fail
          go_ret2
          exact ⟨rfl, rfl⟩
        | false =>
          cases h4 : (x.toList == [100, 111, 119, 110]) with
          | true =>
            go_enter Tryd.func64, Tryd.ntmps64
            go_wp2_with fail
            go_ret2
            exact ⟨rfl, rfl⟩
          | false =>
            cases h5 : (x.toList == [115, 111, 102, 116]) with
            | true =>
              go_enter Tryd.func64, Tryd.ntmps64
              go_wp2_with fail
              go_ret2
              exact ⟨rfl, rfl⟩
            | false =>
              cases h6 : (x.toList == [108, 111, 111, 115, 101]) with
              | true =>
                go_enter Tryd.func64, Tryd.ntmps64
                go_wp2_with fail
                go_ret2
                exact ⟨rfl, rfl⟩
              | false =>
                go_enter Tryd.func64, Tryd.ntmps64
                go_wp2_with fail
                go_ret2
                exact ⟨rfl, rfl⟩
def turnK (k : Nat) : Option (Nat × Option Nat) :=
  match k with
  | 2 => some (0, none)
  | 5 => some (3, none)
  | 8 => some (6, none)
  | 11 => some (9, none)
  | 14 => some (9, some 3)
  | 15 => some (9, some 6)
  | 16 => some (6, some 3)
  | _ => none
def turnW (k : Nat) : ByteArray × ByteArray :=
  match turnK k with
  | none => (⟨#[]⟩, ⟨#[]⟩)
  | some (f, none) => ((Ut f).word, ⟨#[]⟩)
  | some (f, some t) => ((Ut f).word, (Ut t).word)
abbrev aTake : ByteArray := ⟨#[32, 108, 111, 99, 107, 32, 114, 101, 97, 100, 32, 117, 112, 103, 114, 32, 119, 114, 105, 116, 101, 32]⟩
abbrev aDeny : ByteArray := ⟨#[32, 116, 114, 121, 32, 116, 114, 121, 114, 101, 97, 100, 32, 116, 114, 121, 117, 112, 103, 114, 32, 116, 114, 121, 119, 114, 105, 116, 101, 32, 117, 112, 32, 116, 114, 121, 117, 112, 32]⟩
def takeK (k : Nat) : Bool := decide (k = 0 ∨ k = 3 ∨ k = 6 ∨ k = 9)
def denyK (k : Nat) : Bool := decide (k = 1 ∨ k = 4 ∨ k = 7 ∨ k = 10 ∨ k = 12 ∨ k = 13)
theorem tidy_tab : ∀ k, k < 26 → turnO (Ut k).word = turnW k ∧ isO (Ut k).word aTake = takeK k ∧ isO (Ut k).word aDeny = denyK k ∧ ((Ut k).word.toList == [119, 97, 105, 116]) = decide (k = 17) ∧ ((Ut k).word.toList == [112, 97, 114, 107]) = decide (k = 21) ∧ ((Ut k).word.toList == []) = false := by decide +kernel
/-! ### the list of what is held -/
theorem great_lt (l : List Th) (a : Int) (ha : 0 < a) : (l.all fun k => decide (k.1 < a)) = decide (great l < a) := by
  unfold great
  induction l with
  | nil => simp [ha]
  | cons x r ih =>
    rw [List.all_cons, ih, List.foldr_cons]
    by_cases h1 : x.1 < a <;> by_cases h2 : List.foldr (fun k a => max a k.1) 0 r < a <;> simp [h1, h2] <;> omega
structure Held (l : List Th) : Prop where
  uq : Uq l
  kt : ∀ q ∈ l, KT q
  pos : ∀ q ∈ l, 0 < q.1
theorem Held.nil : Held [] := ⟨Uq.nil, fun _ h => (by cases h), fun _ h => (by cases h)⟩
theorem addK_new {l : List Th} {p : Th} (h : p ∉ l) : addK l p = l ++ [p] := by unfold addK; rw [if_neg h]
theorem Held.add {l : List Th} (h : Held l) {a v : Int} (ha : 0 < a) (hv : KT (a, v)) (hn : ∀ w, (a, w) ∉ l) : Held (l ++ [(a, v)]) := by
  have h1 := (h.uq.add (u := v) hn).1
  rw [addK_new (hn v)] at h1
  refine ⟨h1, fun q hq => ?_, fun q hq => ?_⟩
  · rcases List.mem_append.1 hq with hq | hq
    · exact h.kt q hq
    · rw [List.mem_singleton] at hq; subst hq; exact hv
  · rcases List.mem_append.1 hq with hq | hq
    · exact h.pos q hq
    · rw [List.mem_singleton] at hq; subst hq; exact ha
theorem erase_delK {l : List Th} (h : l.Nodup) (p : Th) : l.erase p = delK l p := by
  rw [h.erase_eq_filter]
  unfold delK
  congr 1
  funext q
  by_cases e : q = p <;> simp [e]
theorem Held.del {l : List Th} (h : Held l) {a v : Int} (hm : (a, v) ∈ l) : Held (l.erase (a, v)) ∧ (∀ w, (a, w) ∉ l.erase (a, v)) ∧ (l.erase (a, v)).length + 1 = l.length := by
  obtain ⟨h1, h2, h3⟩ := h.uq.del hm
  rw [erase_delK h.uq.nd]
  exact ⟨⟨h1, fun q hq => h.kt q (mem_delK.1 hq).1, fun q hq => h.pos q (mem_delK.1 hq).1⟩, h3, h2⟩
theorem wait_above {l : List Th} (h : Held l) {o v : Int} (hm : (o, v) ∈ l) : ((l.erase (o, v)).all fun k => decide (k.1 < o)) = decide (great l = o) := by
  have hge := great_ge l (o, v) hm
  have ho := h.pos _ hm
  simp only at hge ho
  obtain ⟨_, hno, _⟩ := h.del hm
  have hsub : ∀ q, q ∈ l.erase (o, v) → q ∈ l := fun q hq => List.mem_of_mem_erase hq
  have hall : (l.all fun k => decide (k.1 < o + 1)) = decide (great l < o + 1) := great_lt l (o + 1) (by omega)
  by_cases hg : great l = o
  · rw [decide_eq_true hg, List.all_eq_true]
    intro q hq
    have h1 := great_ge l q (hsub q hq)
    have h2 : q.1 ≠ o := fun e => by
      obtain ⟨qa, qk⟩ := q
      simp only at e
      subst e
      exact hno qk hq
    rw [decide_eq_true_eq]
    omega
  · rw [decide_eq_false hg]
    cases hc : (l.erase (o, v)).all fun k => decide (k.1 < o) with
    | false => rfl
    | true =>
      exfalso
      rw [List.all_eq_true] at hc
      have : (l.all fun k => decide (k.1 < o + 1)) = true := by
        rw [List.all_eq_true]
        intro q hq
        rw [decide_eq_true_eq]
        by_cases e : q = (o, v)
        · subst e; simp only; omega
        · have := hc q ((List.mem_erase_of_ne e).2 hq)
          rw [decide_eq_true_eq] at this
          omega
      rw [hall, decide_eq_true_eq] at this
      omega
/-! ### a step, kind by kind -/
theorem next_take (l : List Th) (k : Nat) (t a o : Int) (hk : takeK k = true) : nextO l k t a o = if 0 ≤ t ∨ a ≤ great l then none else some (addK l (a, (k : Int))) := by
  unfold takeK at hk
  rw [decide_eq_true_eq] at hk
  rcases hk with rfl | rfl | rfl | rfl <;> rfl
def afterT (l : List Th) (a : Int) : Option Nat → List Th
  | none => l
  | some v => addK l (a, (v : Int))
theorem next_turn (l : List Th) (k : Nat) (t a o : Int) (f : Nat) (tv : Option Nat) (hk : turnK k = some (f, tv)) :
    nextO l k t a o = if (a, (f : Int)) ∈ l then some (afterT (delK l (a, (f : Int))) a tv) else none := by
  unfold turnK at hk
  split at hk <;> first
    | (injection hk with hk; injection hk with h1 h2; subst h1; subst h2; rfl)
    | cases hk
theorem turnK_lt {k f : Nat} {tv : Option Nat} (hk : turnK k = some (f, tv)) : f < 26 ∧ (∀ v, tv = some v → v < 26) ∧ takeK k = false := by
  unfold turnK at hk
  split at hk <;> first
    | (injection hk with hk; injection hk with h1 h2; subst h1; subst h2; exact ⟨by decide, (by intro v hv; first | (injection hv with hv; subst hv; decide) | cases hv), by decide⟩)
    | cases hk
theorem next_deny (l : List Th) (k : Nat) (t a o : Int) (hk : denyK k = true) : nextO l k t a o = none := by
  unfold denyK at hk
  rw [decide_eq_true_eq] at hk
  rcases hk with rfl | rfl | rfl | rfl | rfl | rfl <;> rfl
theorem next_rest (l : List Th) (k : Nat) (t a o : Int) (h1 : takeK k = false) (h2 : turnK k = none) (h3 : denyK k = false) (h4 : k ≠ 17) (h5 : k ≠ 21) : nextO l k t a o = some l := by
  unfold takeK at h1
  unfold denyK at h3
  rw [decide_eq_false_iff_not] at h1 h3
  unfold nextO
  split <;> first
    | rfl
    | (exfalso; omega)
    | (exfalso; simp [turnK] at h2)
end Go.Proofs.YtmjpaaippilioaaDoor
namespace Go.Proofs.YtmjpaaippilioaaDoor
open Go.RowKit

/-! ### the document's Tidy -/
theorem first_pos : ∀ k, k < 26 → 1024 ≤ (Ut k).first := by decide +kernel
theorem thC_of (a : Int) (k : Nat) : thC (a, (k : Int)) = [.int .u32 a, .string (Ut k).word] := by
  unfold thC thW
  rw [Int.toNat_natCast]
theorem thV_snoc (l : List Th) (a : Int) (k : Nat) : thV (l ++ [(a, (k : Int))]) = thV l ++ [.int .u32 a, .string (Ut k).word] := by
  rw [thV, List.flatMap_append, List.flatMap_singleton, thC_of]
theorem th_one (a : Int) (T : ByteArray) : ∀ u ∈ [Value.int .u32 a, .string T], u.oneCell' = true := by
  intro u hu
  simp at hu
  rcases hu with rfl | rfl <;> rfl
/-- A program is not tidy whose part ahead is not. -/
theorem tidyO_stop {xs : List OpR} {j : Nat} (h : runT [] (xs.take j) = none) : tidyO xs = false := by
  have := tidyO_fails (xs.take j) (xs.drop j) h
  rwa [List.take_append_drop] at this
theorem without_in (A : Option Addr) (n c : Nat) (l : List Th) (a : Int) (f : Nat) (w : World) (hr : Rd w w.heap.size 2 A n (thV l)) (hnc : n ≤ c) (hcm : c ≤ maxLen) (hn : (n : Int) ≤ 1000) (hK : ∀ q ∈ l, KT q) (hf : f < 26) (hm : (a, (f : Int)) ∈ l) :
    Calls Tryd.prog 67 #[.slice A n c, .agg #[.int .u32 a, .string (Ut f).word]] w fun e w' => ∃ A' c', e = .returned (.tuple #[.slice A' (n - 1) c', .bool true]) ∧ Sl w' w.heap.size 2 A' (n - 1) c' (thV (l.erase (a, (f : Int)))) ∧ Frm w w' fun _ => False := by
  have h := without_any A n c l (a, (f : Int)) w hr hnc hcm hn hK (show (0 : Int) ≤ (f : Int) ∧ (f : Int) < 26 by omega)
  rw [show thS (a, (f : Int)) = .agg #[.int .u32 a, .string (Ut f).word] by unfold thS thW; rw [Int.toNat_natCast]] at h
  refine h.mono fun e w' ⟨h1, h2⟩ => ?_
  rcases h1 with ⟨_, A', c', he, hs⟩ | ⟨h1, _⟩
  · exact ⟨A', c', he, hs, h2⟩
  · exact absurd hm h1
theorem without_out (A : Option Addr) (n c : Nat) (l : List Th) (a : Int) (f : Nat) (w : World) (hr : Rd w w.heap.size 2 A n (thV l)) (hnc : n ≤ c) (hcm : c ≤ maxLen) (hn : (n : Int) ≤ 1000) (hK : ∀ q ∈ l, KT q) (hf : f < 26) (hm : (a, (f : Int)) ∉ l) :
    Calls Tryd.prog 67 #[.slice A n c, .agg #[.int .u32 a, .string (Ut f).word]] w fun e w' => e = .returned (.tuple #[.slice A n c, .bool false]) ∧ Frm w w' fun _ => False := by
  have h := without_any A n c l (a, (f : Int)) w hr hnc hcm hn hK (show (0 : Int) ≤ (f : Int) ∧ (f : Int) < 26 by omega)
  rw [show thS (a, (f : Int)) = .agg #[.int .u32 a, .string (Ut f).word] by unfold thS thW; rw [Int.toNat_natCast]] at h
  refine h.mono fun e w' ⟨h1, h2⟩ => ?_
  rcases h1 with ⟨h1, _⟩ | ⟨_, he⟩
  · exact absurd h1 hm
  · exact ⟨he, h2⟩
set_option maxRecDepth 100000 in
set_option maxHeartbeats 8000000 in
theorem tidy_ref (A : Option Addr) (n c : Nat) (xs : List OpR) (w : World) (hr : Rd w w.heap.size 7 A n (opsR xs)) (hk : KOk xs) (hn : (n : Int) ≤ 1000) :
    Calls Tryd.prog 34 #[.slice A n c] w fun e w' => e = .returned (.bool (tidyO xs)) ∧ Frm w w' fun _ => False := by
  obtain ⟨i102, hi, hz0, hz1, hz2⟩ := info_parts info102
  obtain ⟨hxl, hxc⟩ := Rd.rows OpR.rcs_len (by decide) hr
  have HXL := Lib.hid hxl
  have HXC := Lib.hid hxc
  have HK := Lib.hid hk
  clear hr hxl hxc hk
  go_enter Tryd.func34, Tryd.ntmps34
  go_wp2_with fail
  go_loopw [3, 4] (fun sh i wr => ∃ (j : Nat) (Ah : Option Addr) (nh ch : Nat) (l : List Th), i = .int .i64 j ∧ j ≤ n ∧ sh = .slice Ah nh ch ∧ nh ≤ j ∧ Sl wr w.heap.size 2 Ah nh ch (thV l) ∧ runT [] (xs.take j) = some l ∧ Held l ∧ Frm w wr fun _ => False) (fun _ i _ => n - (intOf i).toNat)
  case atStart => exact ⟨0, none, 0, 0, [], rfl, Nat.zero_le _, rfl, Nat.le_refl _, Sl.nil _ _ _, rfl, Held.nil, Frm.refl _ _⟩
  case round =>
    obtain ⟨j, Ah, nh, ch, l, rfl, hj, rfl, hnh, hS, hrun, hld, hF⟩ := hrel
    have S := Lib.hid hS
    have F := Lib.hid hF
    have RUN := Lib.hid hrun
    have LD := Lib.hid hld
    have j0 : (0 : Int) ≤ (j : Int) := by omega
    have j1 : (j : Int) ≤ (n : Int) := by omega
    have hB : w.heap.size ≤ wr.heap.size := hF.size
    have HB := Lib.hid hB
    clear hS hrun hld hF hB
    by_cases hlt : j < n
    · have j2 : (j : Int) < (n : Int) := by omega
      obtain ⟨g, off, rfl, -, hc⟩ := HXC.out (by omega)
      have hjl : j < xs.length := by have := HXL.out; omega
      have hx := hc j hjl
      have e : xs.take (j + 1) = xs.take j ++ [xs[j]] := List.take_succ_eq_append_getElem hjl
      obtain ⟨q0, q1⟩ := HK.out _ (List.getElem_mem hjl)
      obtain ⟨X, hX⟩ : ∃ X, xs[j] = X := ⟨_, rfl⟩
      rw [hX] at hx q0 e
      have hstep : runT [] (xs.take (j + 1)) = stepT l X := by rw [e]; exact runT_snoc _ _ _ _ RUN.out
      have HST := Lib.hid hstep
      have HMY := Lib.hid fun v => may_ref X q0 v
      have HAD := Lib.hid fun v => addr_ref X q0 v
      have HWR := Lib.hid fun v => word_ref X.k v
      have HQ0 := Lib.hid q0
      cases hm : mayO Ut X with
      | false =>
        have hno : tidyO xs = false := tidyO_stop (j := j + 1) (by rw [HST.out]; unfold stepT; rw [hm]; rfl)
        simp only [hm] at HMY
        have HNO := Lib.hid hno
        obtain ⟨xk, xa, xo, xt, xfl, xfa, xg⟩ := X
        have x0 : wr.cell? ⟨g, off + j * 7, none⟩ = some (.int .i64 xk) := F.out.cell (hx 0 _ rfl) id
        have x1 : wr.cell? ⟨g, off + j * 7 + 1, none⟩ = some (.int .i64 xa) := F.out.cell (hx 1 _ rfl) id
        have x2 : wr.cell? ⟨g, off + j * 7 + 2, none⟩ = some (.int .i64 xo) := F.out.cell (hx 2 _ rfl) id
        have x3 : wr.cell? ⟨g, off + j * 7 + 3, none⟩ = some (.int .i64 xt) := F.out.cell (hx 3 _ rfl) id
        have x4 : wr.cell? ⟨g, off + j * 7 + 4, none⟩ = some (.bool xfl) := F.out.cell (hx 4 _ rfl) id
        have x5 : wr.cell? ⟨g, off + j * 7 + 5, none⟩ = some (.bool xfa) := F.out.cell (hx 5 _ rfl) id
        have x6 : wr.cell? ⟨g, off + j * 7 + 6, none⟩ = some (.int .i64 xg) := F.out.cell (hx 6 _ rfl) id
        clear hc hx hX e hstep hm hno q0 q1
        go_upto_region 6 with fail
        refine at_world' ?_
        intro W hW
        have hFW : Frm wr W fun _ => False := by
          rw [hW]
          repeat (first | with_reducible refine Frm.setCell ?_ (fun h => absurd h (Nat.lt_irrefl _)) _ | with_reducible exact (Frm.refl _ _).alloc _)
        have p0 : W.cell? ⟨wr.heap.size, 0, none⟩ = some (.int .i64 xk) := by subst hW; go_simp
        have p1 : W.cell? ⟨wr.heap.size, 1, none⟩ = some (.int .i64 xa) := by subst hW; go_simp
        have p2 : W.cell? ⟨wr.heap.size, 2, none⟩ = some (.int .i64 xo) := by subst hW; go_simp
        have p3 : W.cell? ⟨wr.heap.size, 3, none⟩ = some (.int .i64 xt) := by subst hW; go_simp
        have p4 : W.cell? ⟨wr.heap.size, 4, none⟩ = some (.bool xfl) := by subst hW; go_simp
        have p5 : W.cell? ⟨wr.heap.size, 5, none⟩ = some (.bool xfa) := by subst hW; go_simp
        have p6 : W.cell? ⟨wr.heap.size, 6, none⟩ = some (.int .i64 xg) := by subst hW; go_simp
        have FW := Lib.hid (F.out.then_ hFW)
        have HWN := Lib.hid hFW
        obtain ⟨b, hb⟩ : ∃ b, wr.heap.size = b := ⟨_, rfl⟩
        have HOW := Lib.hid hb
        rw [hb] at p0 p1 p2 p3 p4 p5 p6 ⊢
        clear hW hb hFW x0 x1 x2 x3 x4 x5 x6
        go_wp2_with (go_at_call 47; refine (HMY.out _).mono ?_; rintro e W1 ⟨rfl, hf⟩)
        go_ret
        rw [HNO.out]
        exact ⟨rfl, FW.out.then_ hf⟩
      | true =>
        obtain ⟨h26, a0, a1, o0, o1⟩ := mayO_bounds hm
        obtain ⟨k, hk⟩ : ∃ k : Nat, X.k = (k : Int) := ⟨X.k.toNat, (Int.toNat_of_nonneg q0).symm⟩
        have hk26 : k < 26 := by omega
        have hst2 : stepT l X = nextO l k X.t (addrO Ut X).1 (addrO Ut X).2 := by unfold stepT; rw [hm, if_pos rfl, hk, Int.toNat_natCast]
        obtain ⟨hpa, hpo⟩ : 0 < (addrO Ut X).1 ∧ (addrO Ut X).1 ≤ 131072 := by
          refine ⟨?_, (addr_small X).2⟩
          unfold addrO
          rw [hm, if_pos rfl, hk, Int.toNat_natCast]
          have := first_pos k hk26
          show 0 < (Ut k).first + 4 * X.a
          omega
        simp only [hm] at HMY
        have hw : wordO X.k = (Ut k).word := by unfold wordO; rw [if_pos ⟨q0, h26⟩, hk, Int.toNat_natCast]
        simp only [hw] at HWR
        obtain ⟨t1, t2, t3, t4, t5, t6⟩ := tidy_tab k hk26
        have hTs : (Ut k).word.size ≤ 1000 := by have := wordO_size X.k; rw [hw] at this; omega
        have HTR := Lib.hid fun v => turn_ref (Ut k).word v
        rw [t1] at HTR
        have HI1 := Lib.hid fun v => is_any (Ut k).word aTake hTs (by decide) v
        rw [t2] at HI1
        have HI2 := Lib.hid fun v => is_any (Ut k).word aDeny hTs (by decide) v
        rw [t3] at HI2
        rw [hst2] at HST
        obtain ⟨av, hav⟩ : ∃ a, (addrO Ut X).1 = a := ⟨_, rfl⟩
        obtain ⟨ov, hov⟩ : ∃ a, (addrO Ut X).2 = a := ⟨_, rfl⟩
        rw [hav] at HST hpa hpo
        rw [hov] at HST
        simp only [hav, hov] at HAD
        have hthT := thV_snoc l av k
        obtain ⟨T, hT⟩ : ∃ T, (Ut k).word = T := ⟨_, rfl⟩
        rw [hT] at HWR HTR HI1 HI2 t4 t5 t6 hthT
        obtain ⟨F1, hF1⟩ : ∃ T, (turnW k).1 = T := ⟨_, rfl⟩
        obtain ⟨F2, hF2⟩ : ∃ T, (turnW k).2 = T := ⟨_, rfl⟩
        rw [hF1, hF2] at HTR
        have HF1 := Lib.hid hF1
        have HF2 := Lib.hid hF2
        have HTH := Lib.hid hthT
        have HPA := Lib.hid hpa
        have HK26 := Lib.hid hk26
        obtain ⟨xk, xa, xo, xt, xfl, xfa, xg⟩ := X
        simp only at HST
        have x0 : wr.cell? ⟨g, off + j * 7, none⟩ = some (.int .i64 xk) := F.out.cell (hx 0 _ rfl) id
        have x1 : wr.cell? ⟨g, off + j * 7 + 1, none⟩ = some (.int .i64 xa) := F.out.cell (hx 1 _ rfl) id
        have x2 : wr.cell? ⟨g, off + j * 7 + 2, none⟩ = some (.int .i64 xo) := F.out.cell (hx 2 _ rfl) id
        have x3 : wr.cell? ⟨g, off + j * 7 + 3, none⟩ = some (.int .i64 xt) := F.out.cell (hx 3 _ rfl) id
        have x4 : wr.cell? ⟨g, off + j * 7 + 4, none⟩ = some (.bool xfl) := F.out.cell (hx 4 _ rfl) id
        have x5 : wr.cell? ⟨g, off + j * 7 + 5, none⟩ = some (.bool xfa) := F.out.cell (hx 5 _ rfl) id
        have x6 : wr.cell? ⟨g, off + j * 7 + 6, none⟩ = some (.int .i64 xg) := F.out.cell (hx 6 _ rfl) id
        clear hc hx hX e hstep hm q0 q1 h26 a0 a1 o0 o1 hk hst2 hw t1 t2 t3 hTs hav hov hT hF1 hF2 hthT hpa hpo hk26
        go_upto_region 6 with fail
        refine at_world' ?_
        intro W hW
        have hFW : Frm wr W fun _ => False := by
          rw [hW]
          repeat (first | with_reducible refine Frm.setCell ?_ (fun h => absurd h (Nat.lt_irrefl _)) _ | with_reducible exact (Frm.refl _ _).alloc _)
        have p0 : W.cell? ⟨wr.heap.size, 0, none⟩ = some (.int .i64 xk) := by subst hW; go_simp
        have p1 : W.cell? ⟨wr.heap.size, 1, none⟩ = some (.int .i64 xa) := by subst hW; go_simp
        have p2 : W.cell? ⟨wr.heap.size, 2, none⟩ = some (.int .i64 xo) := by subst hW; go_simp
        have p3 : W.cell? ⟨wr.heap.size, 3, none⟩ = some (.int .i64 xt) := by subst hW; go_simp
        have p4 : W.cell? ⟨wr.heap.size, 4, none⟩ = some (.bool xfl) := by subst hW; go_simp
        have p5 : W.cell? ⟨wr.heap.size, 5, none⟩ = some (.bool xfa) := by subst hW; go_simp
        have p6 : W.cell? ⟨wr.heap.size, 6, none⟩ = some (.int .i64 xg) := by subst hW; go_simp
        have FW := Lib.hid (F.out.then_ hFW)
        have HWN := Lib.hid hFW
        obtain ⟨b, hb⟩ : ∃ b, wr.heap.size = b := ⟨_, rfl⟩
        have HOW := Lib.hid hb
        rw [hb] at p0 p1 p2 p3 p4 p5 p6 ⊢
        clear hW hb hFW x0 x1 x2 x3 x4 x5 x6
        clear HOW
        go_upto_region 11 with (first
          | (go_at_call 47; refine (HMY.out _).mono ?_; rintro e W1 ⟨rfl, hf⟩; replace p0 := hf.cell p0 id; replace p1 := hf.cell p1 id; replace p2 := hf.cell p2 id; replace p3 := hf.cell p3 id; replace p4 := hf.cell p4 id; replace p5 := hf.cell p5 id; replace p6 := hf.cell p6 id; have G1 := Lib.hid (HWN.out.then_ hf); clear hf)
          | (go_at_call 45; refine (HAD.out _).mono ?_; rintro e W2 ⟨rfl, hf⟩; replace p0 := hf.cell p0 id; replace p1 := hf.cell p1 id; replace p2 := hf.cell p2 id; replace p3 := hf.cell p3 id; replace p4 := hf.cell p4 id; replace p5 := hf.cell p5 id; replace p6 := hf.cell p6 id; have G2 := Lib.hid (G1.out.then_ hf); clear hf)
          | (go_at_call 63; refine (HWR.out _).mono ?_; rintro e W3 ⟨rfl, hf⟩; replace p0 := hf.cell p0 id; replace p1 := hf.cell p1 id; replace p2 := hf.cell p2 id; replace p3 := hf.cell p3 id; replace p4 := hf.cell p4 id; replace p5 := hf.cell p5 id; replace p6 := hf.cell p6 id; have G3 := Lib.hid (G2.out.then_ hf); clear hf)
          | (go_at_call 64; refine (HTR.out _).mono ?_; rintro e W4 ⟨rfl, rfl⟩))
        clear p0 p1 p2 p4 p5 p6
        have FR := Lib.hid (F.out.then_ G3.out)
        have SH := Lib.hid (S.out.new_ G3.out)
        have HB3 := Lib.hid (Nat.le_trans HB.out G3.out.size)
        clear HWN FW G1 G2 G3 S F HMY HAD HWR HTR HB
        by_cases hcT : takeK k = true
        · simp only [hcT] at HI1
          rw [next_take l k xt av ov hcT] at HST
          have HAB := Lib.hid (above_any Ah nh ch l av W3 SH.out.rd (by omega))
          rw [great_lt l av HPA.out] at HAB
          clear t4 t5 t6 HI2 hcT
          by_cases ht : 0 ≤ xt
          · rw [if_pos (.inl ht)] at HST
            have HNO := Lib.hid (tidyO_stop (j := j + 1) HST.out)
            clear HST HAB
            go_wp2_with (go_at_call 65; with_reducible refine (HI1.out _).mono ?_; rintro e v ⟨rfl, rfl⟩)
            go_ret
            rw [HNO.out]
            exact ⟨rfl, FR.out⟩
          · have ht' : xt < 0 := by omega
            by_cases hg : great l < av
            · rw [if_neg (by omega)] at HST
              rw [decide_eq_true hg] at HAB
              have hnot : ∀ w, (av, w) ∉ l := fun w hw => by have := great_ge l _ hw; simp only at this; omega
              rw [addK_new (hnot k)] at HST
              have HLD2 := Lib.hid (LD.out.add HPA.out (show KT (av, (k : Int)) from ⟨by have := HK26.out; simp only; omega, by have := HK26.out; simp only; omega⟩) hnot)
              obtain ⟨h63, hby⟩ : nh + 1 ≤ maxLen ∧ (nh + 1) * 24 ≤ 140737488355328 := by unfold maxLen; omega
              clear hnot hg ht
              go_wp2_with (first
                | (go_at_call 65; with_reducible refine (HI1.out _).mono ?_; rintro e v ⟨rfl, rfl⟩)
                | (go_at_call 66; refine HAB.out.mono ?_; rintro e v ⟨rfl, rfl⟩)
                | (at_builtin; refine wpList_append_sl _ rfl (.tmp 53) (.tmp 57) 95 rfl w.heap.size 102 i102 _ 2 24 Tryd.underlying95 hi hz0 hz1 hz2 rfl (by decide) _ _ _ _ rfl (SH.out.alloc _) _ 1 1 _ rfl (Rd.fresh_at _ 102 _ rfl (by simp)) (th_one av T) h63 hby (Nat.le_trans HB3.out (by simp)) ?_; intro A3 c3 w5 hap; replace hap := Lib.hid hap))
              go_roundw
              case rel =>
                refine ⟨j + 1, A3, nh + 1, c3, l ++ [(av, (k : Int))], by go_num, by omega, rfl, by omega, ?_, HST.out, HLD2.out, (FR.out.then_ ((Frm.refl _ _).alloc _)).trans hap.out.2.1 (fun q hq h => absurd (SH.out.ge h).1 (by omega))⟩
                rw [HTH.out]
                exact hap.out.1
              case measure => simp [intOf]; omega
            · rw [if_pos (.inr (by omega))] at HST
              rw [decide_eq_false hg] at HAB
              have HNO := Lib.hid (tidyO_stop (j := j + 1) HST.out)
              clear HST hg ht
              go_wp2_with (first
                | (go_at_call 65; with_reducible refine (HI1.out _).mono ?_; rintro e v ⟨rfl, rfl⟩)
                | (go_at_call 66; refine HAB.out.mono ?_; rintro e v ⟨rfl, rfl⟩))
              go_ret
              rw [HNO.out]
              exact ⟨rfl, FR.out⟩
        · have hcT' : takeK k = false := by simpa using hcT
          simp only [hcT'] at HI1
          cases htk : turnK k with
          | some p =>
            obtain ⟨f, tv⟩ := p
            obtain ⟨hf26, htv, -⟩ := turnK_lt htk
            rw [next_turn l k xt av ov f tv htk] at HST
            have hF1 : F1 = (Ut f).word := by rw [← HF1.out]; unfold turnW; rw [htk]; cases tv <;> rfl
            have n1 : (F1.toList == []) = false := by rw [hF1]; exact (tidy_tab f hf26).2.2.2.2.2
            clear t4 t5 t6 HI2 hcT hcT'
            by_cases hm : (av, (f : Int)) ∈ l
            · rw [if_pos hm, ← erase_delK LD.out.uq.nd] at HST
              have hW := without_in Ah nh ch l av f W3 SH.out.rd SH.out.le SH.out.max (by omega) LD.out.kt hf26 hm
              rw [← hF1] at hW
              have HW := Lib.hid hW
              obtain ⟨hd1, hd2, hd3⟩ := LD.out.del hm
              have HD1 := Lib.hid hd1
              have HD2 := Lib.hid hd2
              have hnl : nh = l.length := by have := SH.out.len; rw [flat_len thC 2 thC_len] at this; omega
              have HNL := Lib.hid (And.intro hnl hd3)
              clear hW hF1 hd1 hd2 hd3 hm hnl
              cases tv with
              | none =>
                have hF2 : F2 = ⟨#[]⟩ := by rw [← HF2.out]; unfold turnW; rw [htk]
                have n2 : (F2.toList == []) = true := by rw [hF2]; decide +kernel
                clear hF2
                clear htk htv
                go_wp2_with (first
                  | (go_at_call 65; with_reducible refine (HI1.out _).mono ?_; rintro e v ⟨rfl, rfl⟩)
                  | (go_at_call 67; refine HW.out.mono ?_; rintro e w5 ⟨A5, c5, rfl, hs5, hf5⟩; have S5 := Lib.hid hs5; have F5 := Lib.hid hf5; clear hs5 hf5))
                go_roundw
                case rel => exact ⟨j + 1, A5, nh - 1, c5, l.erase (av, (f : Int)), by go_num, by omega, rfl, by omega, S5.out.mono HB3.out, HST.out, HD1.out, FR.out.then_ F5.out⟩
                case measure => simp [intOf]; omega
              | some v =>
                have hv26 := htv v rfl
                have hF2 : F2 = (Ut v).word := by rw [← HF2.out]; unfold turnW; rw [htk]
                have n2 : (F2.toList == []) = false := by rw [hF2]; exact (tidy_tab v hv26).2.2.2.2.2
                simp only [afterT, addK_new (HD2.out (v : Int))] at HST
                have hT2 := thV_snoc (l.erase (av, (f : Int))) av v
                rw [← hF2] at hT2
                have HT2 := Lib.hid hT2
                have HLD2 := Lib.hid (HD1.out.add HPA.out (show KT (av, (v : Int)) from ⟨by simp only; omega, by simp only; omega⟩) HD2.out)
                obtain ⟨h63, hby⟩ : nh - 1 + 1 ≤ maxLen ∧ (nh - 1 + 1) * 24 ≤ 140737488355328 := by unfold maxLen; omega
                clear htk htv hF2 hT2 hv26
                go_wp2_with (first
                  | (go_at_call 65; with_reducible refine (HI1.out _).mono ?_; rintro e v ⟨rfl, rfl⟩)
                  | (go_at_call 67; refine HW.out.mono ?_; rintro e w5 ⟨A5, c5, rfl, hs5, hf5⟩; have S5 := Lib.hid hs5; have F5 := Lib.hid hf5; clear hs5 hf5)
                  | (at_builtin; refine wpList_append_sl _ rfl (.tmp 75) (.tmp 79) 95 rfl w.heap.size 102 i102 _ 2 24 Tryd.underlying95 hi hz0 hz1 hz2 rfl (by decide) _ _ _ _ rfl ((S5.out.mono HB3.out).alloc _) _ 1 1 _ rfl (Rd.fresh_at _ 102 _ rfl (by simp)) (th_one av F2) h63 hby (Nat.le_trans HB3.out (Nat.le_trans F5.out.size (by simp))) ?_; intro A6 c6 w6 hap; replace hap := Lib.hid hap))
                go_roundw
                case rel =>
                  refine ⟨j + 1, A6, nh - 1 + 1, c6, l.erase (av, (f : Int)) ++ [(av, (v : Int))], by go_num, by omega, rfl, by omega, ?_, HST.out, HLD2.out, ((FR.out.then_ F5.out).then_ ((Frm.refl _ _).alloc _)).trans hap.out.2.1 (fun q hq h => absurd (S5.out.ge h).1 (by have := HB3.out; omega))⟩
                  rw [HT2.out]
                  exact hap.out.1
                case measure => simp [intOf]; omega
            · rw [if_neg hm] at HST
              have HNO := Lib.hid (tidyO_stop (j := j + 1) HST.out)
              have hW := without_out Ah nh ch l av f W3 SH.out.rd SH.out.le SH.out.max (by omega) LD.out.kt hf26 hm
              rw [← hF1] at hW
              have HW := Lib.hid hW
              clear HST hm hF1 hW htk htv
              go_wp2_with (first
                | (go_at_call 65; with_reducible refine (HI1.out _).mono ?_; rintro e v ⟨rfl, rfl⟩)
                | (go_at_call 67; refine HW.out.mono ?_; rintro e w5 ⟨rfl, hf5⟩; have F5 := Lib.hid hf5; clear hf5))
              go_ret
              rw [HNO.out]
              exact ⟨rfl, FR.out.then_ F5.out⟩
          | none =>
            have n1 : (F1.toList == []) = true := by rw [← HF1.out]; unfold turnW; rw [htk]; decide +kernel
            by_cases h17 : k = 17
            · have e17 : (T.toList == [119, 97, 105, 116]) = true := by rw [t4]; exact decide_eq_true h17
              have hnx : nextO l k xt av ov = if 0 ≤ xt ∧ (ov, ((0 : Nat) : Int)) ∈ l ∧ great l = ov then some l else none := by rw [h17]; rfl
              rw [hnx] at HST
              clear t4 t5 t6 HI2 hcT hcT' htk h17 hnx
              by_cases hm : (ov, ((0 : Nat) : Int)) ∈ l
              · have hW := without_in Ah nh ch l ov 0 W3 SH.out.rd SH.out.le SH.out.max (by omega) LD.out.kt (by decide) hm
                rw [show (Ut 0).word = ⟨#[108, 111, 99, 107]⟩ from rfl] at hW
                have HW := Lib.hid hW
                have HWA := Lib.hid (wait_above LD.out hm)
                clear hW
                by_cases ht : 0 ≤ xt
                · have ht' : decide (xt < 0) = false := by rw [decide_eq_false_iff_not]; omega
                  by_cases hg : great l = ov
                  · rw [if_pos ⟨ht, hm, hg⟩] at HST
                    rw [decide_eq_true hg] at HWA
                    clear hm hg
                    go_wp2_with (first
                      | (go_at_call 65; with_reducible refine (HI1.out _).mono ?_; rintro e v ⟨rfl, rfl⟩)
                      | (go_at_call 67; refine HW.out.mono ?_; rintro e w5 ⟨A5, c5, rfl, hs5, hf5⟩; replace p3 := hf5.cell p3 id; have F5 := Lib.hid hf5; have HAB := Lib.hid (above_any A5 (nh - 1) c5 _ ov w5 hs5.rd (by omega)); rw [HWA.out] at HAB; clear hs5 hf5)
                      | (go_at_call 66; refine HAB.out.mono ?_; rintro e v ⟨rfl, rfl⟩))
                    go_roundw
                    case rel => exact ⟨j + 1, Ah, nh, ch, l, by go_num, by omega, rfl, by omega, SH.out.new_ F5.out, HST.out, LD.out, FR.out.then_ F5.out⟩
                    case measure => simp [intOf]; omega
                  · rw [if_neg (fun h => hg h.2.2)] at HST
                    rw [decide_eq_false hg] at HWA
                    have HNO := Lib.hid (tidyO_stop (j := j + 1) HST.out)
                    clear hm hg HST
                    go_wp2_with (first
                      | (go_at_call 65; with_reducible refine (HI1.out _).mono ?_; rintro e v ⟨rfl, rfl⟩)
                      | (go_at_call 67; refine HW.out.mono ?_; rintro e w5 ⟨A5, c5, rfl, hs5, hf5⟩; replace p3 := hf5.cell p3 id; have F5 := Lib.hid hf5; have HAB := Lib.hid (above_any A5 (nh - 1) c5 _ ov w5 hs5.rd (by omega)); rw [HWA.out] at HAB; clear hs5 hf5)
                      | (go_at_call 66; refine HAB.out.mono ?_; rintro e v ⟨rfl, rfl⟩))
                    go_ret
                    rw [HNO.out]
                    exact ⟨rfl, FR.out.then_ F5.out⟩
                · rw [if_neg (fun h => ht h.1)] at HST
                  have ht' : decide (xt < 0) = true := by rw [decide_eq_true_eq]; omega
                  have HNO := Lib.hid (tidyO_stop (j := j + 1) HST.out)
                  clear hm HST
                  go_wp2_with (first
                    | (go_at_call 65; with_reducible refine (HI1.out _).mono ?_; rintro e v ⟨rfl, rfl⟩)
                    | (go_at_call 67; refine HW.out.mono ?_; rintro e w5 ⟨A5, c5, rfl, hs5, hf5⟩; replace p3 := hf5.cell p3 id; have F5 := Lib.hid hf5; clear hs5 hf5))
                  go_ret
                  rw [HNO.out]
                  exact ⟨rfl, FR.out.then_ F5.out⟩
              · rw [if_neg (fun h => hm h.2.1)] at HST
                have HNO := Lib.hid (tidyO_stop (j := j + 1) HST.out)
                have hW := without_out Ah nh ch l ov 0 W3 SH.out.rd SH.out.le SH.out.max (by omega) LD.out.kt (by decide) hm
                rw [show (Ut 0).word = ⟨#[108, 111, 99, 107]⟩ from rfl] at hW
                have HW := Lib.hid hW
                clear hm HST hW
                by_cases ht : 0 ≤ xt
                · have ht' : decide (xt < 0) = false := by rw [decide_eq_false_iff_not]; omega
                  go_wp2_with (first
                    | (go_at_call 65; with_reducible refine (HI1.out _).mono ?_; rintro e v ⟨rfl, rfl⟩)
                    | (go_at_call 67; refine HW.out.mono ?_; rintro e w5 ⟨rfl, hf5⟩; replace p3 := hf5.cell p3 id; have F5 := Lib.hid hf5; clear hf5))
                  go_ret
                  rw [HNO.out]
                  exact ⟨rfl, FR.out.then_ F5.out⟩
                · have ht' : decide (xt < 0) = true := by rw [decide_eq_true_eq]; omega
                  go_wp2_with (first
                    | (go_at_call 65; with_reducible refine (HI1.out _).mono ?_; rintro e v ⟨rfl, rfl⟩)
                    | (go_at_call 67; refine HW.out.mono ?_; rintro e w5 ⟨rfl, hf5⟩; replace p3 := hf5.cell p3 id; have F5 := Lib.hid hf5; clear hf5))
                  go_ret
                  rw [HNO.out]
                  exact ⟨rfl, FR.out.then_ F5.out⟩
            · have e17 : (T.toList == [119, 97, 105, 116]) = false := by rw [t4]; exact decide_eq_false h17
              by_cases h21 : k = 21
              · have e21 : (T.toList == [112, 97, 114, 107]) = true := by rw [t5]; exact decide_eq_true h21
                have hnx : nextO l k xt av ov = if 0 ≤ xt then some l else none := by rw [h21]; rfl
                rw [hnx] at HST
                clear t4 t5 t6 HI2 hcT hcT' htk h17 h21 hnx
                by_cases ht : 0 ≤ xt
                · rw [if_pos ht] at HST
                  have ht' : decide (xt < 0) = false := by rw [decide_eq_false_iff_not]; omega
                  go_wp2_with (go_at_call 65; with_reducible refine (HI1.out _).mono ?_; rintro e v ⟨rfl, rfl⟩)
                  go_roundw
                  case rel => exact ⟨j + 1, Ah, nh, ch, l, by go_num, by omega, rfl, by omega, SH.out, HST.out, LD.out, FR.out⟩
                  case measure => simp [intOf]; omega
                · rw [if_neg ht] at HST
                  have ht' : decide (xt < 0) = true := by rw [decide_eq_true_eq]; omega
                  have HNO := Lib.hid (tidyO_stop (j := j + 1) HST.out)
                  clear HST
                  go_wp2_with (go_at_call 65; with_reducible refine (HI1.out _).mono ?_; rintro e v ⟨rfl, rfl⟩)
                  go_ret
                  rw [HNO.out]
                  exact ⟨rfl, FR.out⟩
              · have e21 : (T.toList == [112, 97, 114, 107]) = false := by rw [t5]; exact decide_eq_false h21
                by_cases hcD : denyK k = true
                · simp only [hcD] at HI2
                  rw [next_deny l k xt av ov hcD] at HST
                  have HNO := Lib.hid (tidyO_stop (j := j + 1) HST.out)
                  clear t4 t5 t6 hcT hcT' htk h17 h21 HST hcD
                  go_wp2_with (first
                    | (go_at_call 65; with_reducible refine (HI1.out _).mono ?_; rintro e v ⟨rfl, rfl⟩)
                    | (go_at_call 65; with_reducible refine (HI2.out _).mono ?_; rintro e v ⟨rfl, rfl⟩))
                  go_ret
                  rw [HNO.out]
                  exact ⟨rfl, FR.out⟩
                · have hcD' : denyK k = false := by simpa using hcD
                  simp only [hcD'] at HI2
                  rw [next_rest l k xt av ov hcT' htk hcD' h17 h21] at HST
                  clear t4 t5 t6 hcT hcT' htk h17 h21 hcD hcD'
                  go_wp2_with (first
                    | (go_at_call 65; with_reducible refine (HI1.out _).mono ?_; rintro e v ⟨rfl, rfl⟩)
                    | (go_at_call 65; with_reducible refine (HI2.out _).mono ?_; rintro e v ⟨rfl, rfl⟩))
                  go_roundw
                  case rel => exact ⟨j + 1, Ah, nh, ch, l, by go_num, by omega, rfl, by omega, SH.out, HST.out, LD.out, FR.out⟩
                  case measure => simp [intOf]; omega
    · obtain rfl : j = n := by omega
      have hl : xs.take j = xs := List.take_of_length_le (by have := HXL.out; omega)
      have hlen : nh = l.length := by have := S.out.len; rw [flat_len thC 2 thC_len] at this; omega
      have hti : tidyO xs = (nh == 0) := by
        have h := RUN.out
        rw [hl] at h
        unfold tidyO
        rw [h, hlen]
        cases l <;> rfl
      have HTI := Lib.hid hti
      clear hl hlen hti
      go_wp2_with fail
      go_ret
      rw [HTI.out]
      refine ⟨?_, F.out⟩
      have e : ((nh : Int) == 0) = (nh == 0) := by rw [Bool.eq_iff_iff]; simp
      rw [← e]
      rfl
end Go.Proofs.YtmjpaaippilioaaDoor
