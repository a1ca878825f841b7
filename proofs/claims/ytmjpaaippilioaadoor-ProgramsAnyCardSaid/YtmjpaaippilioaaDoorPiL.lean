import Derived.Test.YtmjpaaippilioaaDoorPiE
import Derived.Test.YtmjpaaippilioaaDoorPiA
namespace Go.Proofs.YtmjpaaippilioaaDoor
open Go.RowKit

/-! ### the document's May -/
theorem eql71 (x y : OpR) (w : World) : (binOp .eql 71 x.RV y.RV).run Tryd.prog w = .ok (.bool (opEq x y)) w := by
  have e : (Op.equalIn 10000 71 x.RV y.RV).run Tryd.prog w = .ok (opEq x y) w := by
    obtain ⟨a1, a2, a3, a4, a5, a6, a7⟩ := x
    obtain ⟨b1, b2, b3, b4, b5, b6, b7⟩ := y
    rw [run_equalIn_agg _ 9999 71 _ _ (by kernel_rfl) (by kernel_rfl)]
    simp [Program.fieldsOf, Tryd.underlying71, Op.eqFields, go_sem]
    go_simp
    unfold opEq
    by_cases h1 : a1 = b1 <;> simp [h1]
    by_cases h2 : a2 = b2 <;> simp [h2]
    by_cases h3 : a3 = b3 <;> simp [h3]
    by_cases h4 : a4 = b4 <;> simp [h4]
    by_cases h5 : a5 = b5 <;> simp [h5]
    by_cases h6 : a6 = b6 <;> simp [h6]
    by_cases h7 : a7 = b7 <;> simp [h7]
  rw [run_eql_struct, e]
  rfl
def GoodO (x : OpR) : Prop := (0 ≤ x.k ∧ x.k < 26) ∧ (0 ≤ x.a ∧ x.a < 8) ∧ (0 ≤ x.o ∧ x.o < 8) ∧ (-1 ≤ x.t ∧ x.t < 255) ∧ (0 ≤ x.g ∧ x.g < 256)
theorem mayO_good {x : OpR} (h0 : 0 ≤ x.k) (h : GoodO x) : mayO Ut x = opEq (plainR x) x := by
  obtain ⟨⟨_, h1⟩, ⟨h2, h3⟩, ⟨h4, h5⟩, ⟨h6, h7⟩, h8, h9⟩ := h
  unfold mayO
  rw [decide_eq_true h1, decide_eq_true h2, decide_eq_true h3, decide_eq_true h4, decide_eq_true h5, decide_eq_true h6, decide_eq_true h7, decide_eq_true h8, decide_eq_true h9, plainR_eq x h0 h1]
  rfl
theorem mayO_bad {x : OpR} (h0 : 0 ≤ x.k) (h : ¬ GoodO x) : mayO Ut x = false := by
  cases hm : mayO Ut x with
  | false => rfl
  | true =>
    unfold mayO at hm
    simp only [Bool.and_eq_true, decide_eq_true_eq] at hm
    obtain ⟨h1, ⟨h2, h3⟩, ⟨h4, h5⟩, ⟨h6, h7⟩, ⟨h8, h9⟩, -⟩ := hm
    exact absurd ⟨⟨h0, h1⟩, ⟨h2, h3⟩, ⟨h4, h5⟩, ⟨h6, h7⟩, h8, h9⟩ h
theorem wordO_some (k : Int) : ((wordO k).toList == []) = !(decide (0 ≤ k) && decide (k < 26)) := by
  have hb : ∀ k, k < 26 → ((Ut k).word.toList == []) = false := by decide +kernel
  unfold wordO
  by_cases h : 0 ≤ k ∧ k < 26
  · rw [if_pos h, hb _ (by omega), decide_eq_true h.1, decide_eq_true h.2]; rfl
  · rw [if_neg h]
    by_cases h0 : 0 ≤ k
    · rw [decide_eq_false (show ¬ k < 26 by omega), Bool.and_false]; decide +kernel
    · rw [decide_eq_false h0, Bool.false_and]; decide +kernel
set_option maxRecDepth 100000 in
set_option maxHeartbeats 8000000 in
theorem may_ref (x : OpR) (h0 : 0 ≤ x.k) (w : World) : Calls Tryd.prog 47 #[x.RV] w fun e w' => e = .returned (.bool (mayO Ut x)) ∧ Frm w w' fun _ => False := by
  have HWR := Lib.hid fun v => word_ref x.k v
  have hws := wordO_some x.k
  obtain ⟨T, hT⟩ : ∃ T, wordO x.k = T := ⟨_, rfl⟩
  rw [hT] at HWR hws
  clear hT
  by_cases hg : GoodO x
  · have HM := Lib.hid (mayO_good h0 hg)
    obtain ⟨⟨g0, g1⟩, ⟨g2, g3⟩, ⟨g4, g5⟩, ⟨g6, g7⟩, g8, g9⟩ := hg
    have HPL := Lib.hid fun v => plain_ref x g8 (by omega) v
    rw [HM.out]
    have heq := eql71 (plainR x) x
    have eqg := eqg71
    obtain ⟨Y, hY⟩ : ∃ Y, plainR x = Y := ⟨_, rfl⟩
    rw [hY] at heq ⊢
    simp only [hY] at HPL
    rw [decide_eq_true g0, decide_eq_true g1] at hws
    replace hws : (T.toList == []) = false := hws
    clear hY HM
    obtain ⟨b, hb⟩ : ∃ b, opEq Y x = b := ⟨_, rfl⟩
    rw [hb] at heq ⊢
    obtain ⟨xk, xa, xo, xt, xfl, xfa, xg⟩ := x
    obtain ⟨yk, ya, yo, yt, yfl, yfa, yg⟩ := Y
    simp only at g0 g1 g2 g3 g4 g5 g6 g7 g8 g9 HWR HPL heq
    clear hb h0
    go_enter Tryd.func47, Tryd.ntmps47
    go_upto_region 1 with fail
    refine at_world' ?_
    intro W hW
    have hF : Frm w W fun _ => False := by rw [hW]; exact (Frm.refl _ _).alloc _
    obtain ⟨bx, hbx⟩ : ∃ b, w.heap.size = b := ⟨_, rfl⟩
    have p0 : W.cell? ⟨w.heap.size, 0, none⟩ = some (.int .i64 xk) := by subst hW; go_simp
    have p1 : W.cell? ⟨w.heap.size, 1, none⟩ = some (.int .i64 xa) := by subst hW; go_simp
    have p2 : W.cell? ⟨w.heap.size, 2, none⟩ = some (.int .i64 xo) := by subst hW; go_simp
    have p3 : W.cell? ⟨w.heap.size, 3, none⟩ = some (.int .i64 xt) := by subst hW; go_simp
    have p4 : W.cell? ⟨w.heap.size, 4, none⟩ = some (.bool xfl) := by subst hW; go_simp
    have p5 : W.cell? ⟨w.heap.size, 5, none⟩ = some (.bool xfa) := by subst hW; go_simp
    have p6 : W.cell? ⟨w.heap.size, 6, none⟩ = some (.int .i64 xg) := by subst hW; go_simp
    rw [hbx] at p0 p1 p2 p3 p4 p5 p6 ⊢
    clear hW hbx
    have k3 : xa ≤ 7 := by omega
    have k5 : xo ≤ 7 := by omega
    have k7 : xt ≤ 254 := by omega
    have k9 : xg ≤ 255 := by omega
    go_upto_region 3 with (go_at_call 63; refine (HWR.out _).mono ?_; rintro e W1 ⟨rfl, hf⟩; replace p0 := hf.cell p0 id; replace p1 := hf.cell p1 id; replace p2 := hf.cell p2 id; replace p3 := hf.cell p3 id; replace p4 := hf.cell p4 id; replace p5 := hf.cell p5 id; replace p6 := hf.cell p6 id)
    have HF := Lib.hid (hF.then_ hf)
    clear hF hf
    replace p0 := Grown.cell p0
    replace p1 := Grown.cell p1
    replace p2 := Grown.cell p2
    replace p3 := Grown.cell p3
    replace p4 := Grown.cell p4
    replace p5 := Grown.cell p5
    replace p6 := Grown.cell p6
    have HG := Lib.hid fun F : Grown W1 => HPL.out F.1
    refine wp_region_grown W1 (Frm.refl _ _) (by kernel_rfl) (by kernel_rfl) ?_
    repeat (go_big_quiet_step ((go_at_call 71; exact Calls.grown_of (HG.out _))))
    refine wpQuiet_nil ?_
    intro wq hq
    have HQ := Lib.hid (HF.out.then_ hq)
    clear hq p0 p1 p2 p3 p4 p5 p6
    go_wp2_with fail
    go_ret
    exact ⟨rfl, HQ.out⟩
  · have HM := Lib.hid (mayO_bad h0 hg)
    rw [HM.out]
    obtain ⟨xk, xa, xo, xt, xfl, xfa, xg⟩ := x
    simp only at h0 hws HWR
    unfold GoodO at hg
    simp only at hg
    clear HM
    go_enter Tryd.func47, Tryd.ntmps47
    go_upto_region 1 with fail
    refine at_world' ?_
    intro W hW
    have hF : Frm w W fun _ => False := by rw [hW]; exact (Frm.refl _ _).alloc _
    obtain ⟨bx, hbx⟩ : ∃ b, w.heap.size = b := ⟨_, rfl⟩
    have p0 : W.cell? ⟨w.heap.size, 0, none⟩ = some (.int .i64 xk) := by subst hW; go_simp
    have p1 : W.cell? ⟨w.heap.size, 1, none⟩ = some (.int .i64 xa) := by subst hW; go_simp
    have p2 : W.cell? ⟨w.heap.size, 2, none⟩ = some (.int .i64 xo) := by subst hW; go_simp
    have p3 : W.cell? ⟨w.heap.size, 3, none⟩ = some (.int .i64 xt) := by subst hW; go_simp
    have p4 : W.cell? ⟨w.heap.size, 4, none⟩ = some (.bool xfl) := by subst hW; go_simp
    have p5 : W.cell? ⟨w.heap.size, 5, none⟩ = some (.bool xfa) := by subst hW; go_simp
    have p6 : W.cell? ⟨w.heap.size, 6, none⟩ = some (.int .i64 xg) := by subst hW; go_simp
    rw [hbx] at p0 p1 p2 p3 p4 p5 p6 ⊢
    clear hW hbx
    have HG := Lib.hid hg
    have HWS := Lib.hid hws
    by_cases hk : xk < 26
    · have hws2 : (T.toList == []) = false := by rw [hws, decide_eq_true h0, decide_eq_true hk]; rfl
      have HK := Lib.hid hk
      clear hws hg
      go_wp2_with (go_at_call 63; refine (HWR.out _).mono ?_; rintro e W1 ⟨rfl, hf⟩; replace p0 := hf.cell p0 id; replace p1 := hf.cell p1 id; replace p2 := hf.cell p2 id; replace p3 := hf.cell p3 id; replace p4 := hf.cell p4 id; replace p5 := hf.cell p5 id; replace p6 := hf.cell p6 id)
      all_goals first
        | (exfalso; have := HG.out; have := HK.out; omega)
        | (go_ret; exact ⟨rfl, hF.then_ hf⟩)
    · have hws2 : (T.toList == []) = true := by rw [hws, decide_eq_false hk, Bool.and_false]; rfl
      clear hws hg hk
      go_wp2_with (go_at_call 63; refine (HWR.out _).mono ?_; rintro e W1 ⟨rfl, hf⟩; replace p0 := hf.cell p0 id; replace p1 := hf.cell p1 id; replace p2 := hf.cell p2 id; replace p3 := hf.cell p3 id; replace p4 := hf.cell p4 id; replace p5 := hf.cell p5 id; replace p6 := hf.cell p6 id)
      go_ret
      exact ⟨rfl, hF.then_ hf⟩
end Go.Proofs.YtmjpaaippilioaaDoor
namespace Go.Proofs.YtmjpaaippilioaaDoor
open Go.RowKit

/-! ### the document's sort of a kind's objects -/
abbrev aMu : ByteArray := ⟨#[32, 108, 111, 99, 107, 32, 116, 114, 121, 32, 117, 110, 108, 111, 99, 107, 32]⟩
abbrev aCo : ByteArray := ⟨#[32, 119, 97, 105, 116, 32, 110, 111, 116, 105, 102, 121, 32, 110, 111, 116, 105, 102, 121, 97, 108, 108, 32]⟩
abbrev aKe : ByteArray := ⟨#[32, 112, 97, 114, 107, 32, 111, 110, 101, 32, 97, 108, 108, 32, 115, 111, 109, 101, 32, 114, 101, 113, 117, 101, 117, 101, 32]⟩
def sortO (w : ByteArray) : Int := if isO w aMu then 1024 else if isO w aCo then 1088 else if w.toList == [100, 111] then 1120 else if isO w aKe then 1152 else 1056
theorem sort_tab : ∀ k, k < 26 → sortO (Ut k).word = (Ut k).first := by decide +kernel
theorem other_tab : ∀ k, k < 26 → ((Ut k).word.toList == [119, 97, 105, 116]) = decide (k = 17) ∧ ((Ut k).word.toList == [114, 101, 113, 117, 101, 117, 101]) = decide (k = 25) := by decide +kernel
set_option maxRecDepth 100000 in
set_option maxHeartbeats 2000000 in
theorem sort_ref (x : ByteArray) (hx : x.size ≤ 1000) (w : World) : Calls Tryd.prog 72 #[.string x] w fun e w' => e = .returned (.int .u32 (sortO x)) ∧ w = w' := by
  have H1 := Lib.hid (is_any x aMu hx (by decide) w)
  have H2 := Lib.hid (is_any x aCo hx (by decide) w)
  have H3 := Lib.hid (is_any x aKe hx (by decide) w)
  unfold sortO
  obtain ⟨b1, hb1⟩ : ∃ b, isO x aMu = b := ⟨_, rfl⟩
  obtain ⟨b2, hb2⟩ : ∃ b, isO x aCo = b := ⟨_, rfl⟩
  obtain ⟨b3, hb3⟩ : ∃ b, isO x aKe = b := ⟨_, rfl⟩
  rw [hb1] at H1 ⊢
  rw [hb2] at H2 ⊢
  rw [hb3] at H3 ⊢
  obtain ⟨b4, hb4⟩ : ∃ b, (x.toList == [100, 111]) = b := ⟨_, rfl⟩
  rw [hb4]
  clear hb1 hb2 hb3
  cases b1 <;> cases b2 <;> cases b4 <;> cases b3
  all_goals (
    go_enter Tryd.func72, Tryd.ntmps72
    go_wp2_with (first
      | (go_at_call 65; with_reducible refine H1.out.mono ?_; rintro e w2 ⟨rfl, rfl⟩)
      | (go_at_call 65; with_reducible refine H2.out.mono ?_; rintro e w2 ⟨rfl, rfl⟩)
      | (go_at_call 65; with_reducible refine H3.out.mono ?_; rintro e w2 ⟨rfl, rfl⟩))
    go_ret
    exact ⟨rfl, rfl⟩)
end Go.Proofs.YtmjpaaippilioaaDoor
namespace Go.Proofs.YtmjpaaippilioaaDoor
open Go.RowKit

/-! ### the document's addresses -/
theorem addr_tab : ∀ k, k < 26 → 0 ≤ (Ut k).first ∧ (Ut k).first ≤ 1152 ∧ (Ut k).other = if k = 17 then 1024 else if k = 25 then 1152 else 0 := by decide +kernel
set_option maxRecDepth 100000 in
set_option maxHeartbeats 4000000 in
theorem addr_ref (x : OpR) (h0 : 0 ≤ x.k) (w : World) : Calls Tryd.prog 45 #[x.RV] w fun e w' => e = .returned (.tuple #[.int .u32 (addrO Ut x).1, .int .u32 (addrO Ut x).2]) ∧ Frm w w' fun _ => False := by
  have HMY := Lib.hid fun v => may_ref x h0 v
  cases hm : mayO Ut x with
  | false =>
    unfold addrO
    rw [hm, if_neg (by decide)]
    simp only [hm] at HMY
    obtain ⟨xk, xa, xo, xt, xfl, xfa, xg⟩ := x
    clear h0 hm
    go_enter Tryd.func45, Tryd.ntmps45
    go_upto_region 1 with fail
    refine at_world' ?_
    intro W hW
    have hF : Frm w W fun _ => False := by rw [hW]; exact (Frm.refl _ _).alloc _
    have p0 : W.cell? ⟨w.heap.size, 0, none⟩ = some (.int .i64 xk) := by subst hW; go_simp
    have p1 : W.cell? ⟨w.heap.size, 1, none⟩ = some (.int .i64 xa) := by subst hW; go_simp
    have p2 : W.cell? ⟨w.heap.size, 2, none⟩ = some (.int .i64 xo) := by subst hW; go_simp
    have p3 : W.cell? ⟨w.heap.size, 3, none⟩ = some (.int .i64 xt) := by subst hW; go_simp
    have p4 : W.cell? ⟨w.heap.size, 4, none⟩ = some (.bool xfl) := by subst hW; go_simp
    have p5 : W.cell? ⟨w.heap.size, 5, none⟩ = some (.bool xfa) := by subst hW; go_simp
    have p6 : W.cell? ⟨w.heap.size, 6, none⟩ = some (.int .i64 xg) := by subst hW; go_simp
    clear hW
    go_wp2_with (go_at_call 47; refine (HMY.out _).mono ?_; rintro e W1 ⟨rfl, hf⟩)
    go_ret2
    exact ⟨rfl, hF.then_ hf⟩
  | true =>
    obtain ⟨h26, a0, a1, o0, o1⟩ := mayO_bounds hm
    obtain ⟨k, hk⟩ : ∃ k : Nat, x.k = (k : Int) := ⟨x.k.toNat, (Int.toNat_of_nonneg h0).symm⟩
    have hk26 : k < 26 := by omega
    unfold addrO
    rw [hm, if_pos rfl, hk, Int.toNat_natCast]
    simp only [hm] at HMY
    have hw : wordO x.k = (Ut k).word := by unfold wordO; rw [if_pos ⟨h0, h26⟩, hk, Int.toNat_natCast]
    have HWR := Lib.hid fun v => word_ref x.k v
    have HSR : ∀ v, Calls Tryd.prog 72 #[.string (Ut k).word] v fun e w' => e = .returned (.int .u32 (Ut k).first) ∧ Frm v w' fun _ => False := fun v => by
      have := sort_ref (Ut k).word (by have := wordO_size x.k; rw [hw] at this; omega) v
      rw [sort_tab k hk26] at this
      exact this.mono fun e w' ⟨he, h⟩ => ⟨he, by subst h; exact Frm.refl _ _⟩
    have HSR := Lib.hid HSR
    simp only [hw] at HWR
    obtain ⟨t1, t2⟩ := other_tab k hk26
    obtain ⟨hf0, hf1, hoth⟩ := addr_tab k hk26
    obtain ⟨u, hu⟩ : ∃ u, Ut k = u := ⟨_, rfl⟩
    rw [hu] at HWR HSR t1 t2 hf0 hf1 hoth ⊢
    obtain ⟨T, uf, uo, ut, ufl, ufa, ua⟩ := u
    simp only at HWR HSR t1 t2 hf0 hf1 hoth ⊢
    obtain ⟨xk, xa, xo, xt, xfl, xfa, xg⟩ := x
    simp only at a0 a1 o0 o1 hk HWR ⊢
    have a7 : xa ≤ 7 := by omega
    have o7 : xo ≤ 7 := by omega
    have HOT := Lib.hid hoth
    clear h0 hm h26 hu hw hoth
    have cases3 : k = 17 ∨ k = 25 ∨ (k ≠ 17 ∧ k ≠ 25) := by omega
    rcases cases3 with hk3 | hk3 | ⟨hk3, hk4⟩
    · have ho := HOT.out
      have t1' : (T.toList == [119, 97, 105, 116]) = true := by rw [t1]; simp; omega
      have t2' : (T.toList == [114, 101, 113, 117, 101, 117, 101]) = false := by rw [t2]; simp; omega
      have hres : (if (uo != 0) = true then uo + 4 * xo else 0) = 1024 + 4 * xo := by
        rw [ho]; simp [hk3]
      rw [hres]
      clear t1 t2 ho hres HOT hk26 hk3
      subst hk
      go_enter Tryd.func45, Tryd.ntmps45
      go_upto_region 1 with fail
      refine at_world' ?_
      intro W hW
      have hF : Frm w W fun _ => False := by rw [hW]; exact (Frm.refl _ _).alloc _
      have p0 : W.cell? ⟨w.heap.size, 0, none⟩ = some (.int .i64 (k : Int)) := by subst hW; go_simp
      have p1 : W.cell? ⟨w.heap.size, 1, none⟩ = some (.int .i64 xa) := by subst hW; go_simp
      have p2 : W.cell? ⟨w.heap.size, 2, none⟩ = some (.int .i64 xo) := by subst hW; go_simp
      have p3 : W.cell? ⟨w.heap.size, 3, none⟩ = some (.int .i64 xt) := by subst hW; go_simp
      have p4 : W.cell? ⟨w.heap.size, 4, none⟩ = some (.bool xfl) := by subst hW; go_simp
      have p5 : W.cell? ⟨w.heap.size, 5, none⟩ = some (.bool xfa) := by subst hW; go_simp
      have p6 : W.cell? ⟨w.heap.size, 6, none⟩ = some (.int .i64 xg) := by subst hW; go_simp
      obtain ⟨bx, hbx⟩ : ∃ b, w.heap.size = b := ⟨_, rfl⟩
      rw [hbx] at p0 p1 p2 p3 p4 p5 p6 ⊢
      clear hW hbx
      go_upto_region 4 with (first
        | (go_at_call 47; refine (HMY.out _).mono ?_; rintro e W1 ⟨rfl, hf⟩; replace p0 := hf.cell p0 id; replace p1 := hf.cell p1 id; replace p2 := hf.cell p2 id; replace p3 := hf.cell p3 id; replace p4 := hf.cell p4 id; replace p5 := hf.cell p5 id; replace p6 := hf.cell p6 id; have F1 := Lib.hid (hF.then_ hf); clear hf)
        | (go_at_call 63; refine (HWR.out _).mono ?_; rintro e W2 ⟨rfl, hf⟩; replace p0 := hf.cell p0 id; replace p1 := hf.cell p1 id; replace p2 := hf.cell p2 id; replace p3 := hf.cell p3 id; replace p4 := hf.cell p4 id; replace p5 := hf.cell p5 id; replace p6 := hf.cell p6 id; have F2 := Lib.hid (F1.out.then_ hf); clear hf))
      have HP2 := Lib.hid p2
      replace p0 := Grown.cell p0
      replace p1 := Grown.cell p1
      replace p2 := Grown.cell p2
      replace p3 := Grown.cell p3
      replace p4 := Grown.cell p4
      replace p5 := Grown.cell p5
      replace p6 := Grown.cell p6
      have HG := Lib.hid fun F : Grown W2 => HSR.out F.1
      refine wp_region_grown W2 (Frm.refl _ _) (by kernel_rfl) (by kernel_rfl) ?_
      repeat (go_big_quiet_step ((go_at_call 72; exact Calls.grown_of (HG.out _))))
      refine wpQuiet_nil ?_
      intro wq hq
      have HQ := Lib.hid (F2.out.then_ hq)
      have c2 := hq.cell HP2.out id
      clear hq p0 p1 p2 p3 p4 p5 p6
      go_upto_region 6 with fail
      replace c2 := Grown.cell c2
      refine wp_region_grown wq (Frm.refl _ _) (by kernel_rfl) (by kernel_rfl) ?_
      repeat (go_big_quiet_step (fail))
      refine wpQuiet_nil ?_
      intro wz hq
      have HZ := Lib.hid (HQ.out.then_ hq)
      clear hq c2
      go_wp2_with fail
      go_ret2
      exact ⟨rfl, HZ.out⟩
    · have ho := HOT.out
      have t1' : (T.toList == [119, 97, 105, 116]) = false := by rw [t1]; simp; omega
      have t2' : (T.toList == [114, 101, 113, 117, 101, 117, 101]) = true := by rw [t2]; simp; omega
      have hres : (if (uo != 0) = true then uo + 4 * xo else 0) = 1152 + 4 * xo := by
        rw [ho]; simp [hk3]
      rw [hres]
      clear t1 t2 ho hres HOT hk26 hk3
      subst hk
      go_enter Tryd.func45, Tryd.ntmps45
      go_upto_region 1 with fail
      refine at_world' ?_
      intro W hW
      have hF : Frm w W fun _ => False := by rw [hW]; exact (Frm.refl _ _).alloc _
      have p0 : W.cell? ⟨w.heap.size, 0, none⟩ = some (.int .i64 (k : Int)) := by subst hW; go_simp
      have p1 : W.cell? ⟨w.heap.size, 1, none⟩ = some (.int .i64 xa) := by subst hW; go_simp
      have p2 : W.cell? ⟨w.heap.size, 2, none⟩ = some (.int .i64 xo) := by subst hW; go_simp
      have p3 : W.cell? ⟨w.heap.size, 3, none⟩ = some (.int .i64 xt) := by subst hW; go_simp
      have p4 : W.cell? ⟨w.heap.size, 4, none⟩ = some (.bool xfl) := by subst hW; go_simp
      have p5 : W.cell? ⟨w.heap.size, 5, none⟩ = some (.bool xfa) := by subst hW; go_simp
      have p6 : W.cell? ⟨w.heap.size, 6, none⟩ = some (.int .i64 xg) := by subst hW; go_simp
      obtain ⟨bx, hbx⟩ : ∃ b, w.heap.size = b := ⟨_, rfl⟩
      rw [hbx] at p0 p1 p2 p3 p4 p5 p6 ⊢
      clear hW hbx
      go_upto_region 4 with (first
        | (go_at_call 47; refine (HMY.out _).mono ?_; rintro e W1 ⟨rfl, hf⟩; replace p0 := hf.cell p0 id; replace p1 := hf.cell p1 id; replace p2 := hf.cell p2 id; replace p3 := hf.cell p3 id; replace p4 := hf.cell p4 id; replace p5 := hf.cell p5 id; replace p6 := hf.cell p6 id; have F1 := Lib.hid (hF.then_ hf); clear hf)
        | (go_at_call 63; refine (HWR.out _).mono ?_; rintro e W2 ⟨rfl, hf⟩; replace p0 := hf.cell p0 id; replace p1 := hf.cell p1 id; replace p2 := hf.cell p2 id; replace p3 := hf.cell p3 id; replace p4 := hf.cell p4 id; replace p5 := hf.cell p5 id; replace p6 := hf.cell p6 id; have F2 := Lib.hid (F1.out.then_ hf); clear hf))
      have HP2 := Lib.hid p2
      replace p0 := Grown.cell p0
      replace p1 := Grown.cell p1
      replace p2 := Grown.cell p2
      replace p3 := Grown.cell p3
      replace p4 := Grown.cell p4
      replace p5 := Grown.cell p5
      replace p6 := Grown.cell p6
      have HG := Lib.hid fun F : Grown W2 => HSR.out F.1
      refine wp_region_grown W2 (Frm.refl _ _) (by kernel_rfl) (by kernel_rfl) ?_
      repeat (go_big_quiet_step ((go_at_call 72; exact Calls.grown_of (HG.out _))))
      refine wpQuiet_nil ?_
      intro wq hq
      have HQ := Lib.hid (F2.out.then_ hq)
      have c2 := hq.cell HP2.out id
      clear hq p0 p1 p2 p3 p4 p5 p6
      go_upto_region 8 with fail
      replace c2 := Grown.cell c2
      refine wp_region_grown wq (Frm.refl _ _) (by kernel_rfl) (by kernel_rfl) ?_
      repeat (go_big_quiet_step (fail))
      refine wpQuiet_nil ?_
      intro wz hq
      have HZ := Lib.hid (HQ.out.then_ hq)
      clear hq c2
      go_wp2_with fail
      go_ret2
      exact ⟨rfl, HZ.out⟩
    · have ho := HOT.out
      have t1' : (T.toList == [119, 97, 105, 116]) = false := by rw [t1]; simp; omega
      have t2' : (T.toList == [114, 101, 113, 117, 101, 117, 101]) = false := by rw [t2]; simp; omega
      have hres : (if (uo != 0) = true then uo + 4 * xo else 0) = 0 := by
        rw [ho]; simp [hk3, hk4]
      rw [hres]
      clear t1 t2 ho hres HOT hk26 hk3 hk4
      subst hk
      go_enter Tryd.func45, Tryd.ntmps45
      go_upto_region 1 with fail
      refine at_world' ?_
      intro W hW
      have hF : Frm w W fun _ => False := by rw [hW]; exact (Frm.refl _ _).alloc _
      have p0 : W.cell? ⟨w.heap.size, 0, none⟩ = some (.int .i64 (k : Int)) := by subst hW; go_simp
      have p1 : W.cell? ⟨w.heap.size, 1, none⟩ = some (.int .i64 xa) := by subst hW; go_simp
      have p2 : W.cell? ⟨w.heap.size, 2, none⟩ = some (.int .i64 xo) := by subst hW; go_simp
      have p3 : W.cell? ⟨w.heap.size, 3, none⟩ = some (.int .i64 xt) := by subst hW; go_simp
      have p4 : W.cell? ⟨w.heap.size, 4, none⟩ = some (.bool xfl) := by subst hW; go_simp
      have p5 : W.cell? ⟨w.heap.size, 5, none⟩ = some (.bool xfa) := by subst hW; go_simp
      have p6 : W.cell? ⟨w.heap.size, 6, none⟩ = some (.int .i64 xg) := by subst hW; go_simp
      obtain ⟨bx, hbx⟩ : ∃ b, w.heap.size = b := ⟨_, rfl⟩
      rw [hbx] at p0 p1 p2 p3 p4 p5 p6 ⊢
      clear hW hbx
      go_upto_region 4 with (first
        | (go_at_call 47; refine (HMY.out _).mono ?_; rintro e W1 ⟨rfl, hf⟩; replace p0 := hf.cell p0 id; replace p1 := hf.cell p1 id; replace p2 := hf.cell p2 id; replace p3 := hf.cell p3 id; replace p4 := hf.cell p4 id; replace p5 := hf.cell p5 id; replace p6 := hf.cell p6 id; have F1 := Lib.hid (hF.then_ hf); clear hf)
        | (go_at_call 63; refine (HWR.out _).mono ?_; rintro e W2 ⟨rfl, hf⟩; replace p0 := hf.cell p0 id; replace p1 := hf.cell p1 id; replace p2 := hf.cell p2 id; replace p3 := hf.cell p3 id; replace p4 := hf.cell p4 id; replace p5 := hf.cell p5 id; replace p6 := hf.cell p6 id; have F2 := Lib.hid (F1.out.then_ hf); clear hf))
      have HP2 := Lib.hid p2
      replace p0 := Grown.cell p0
      replace p1 := Grown.cell p1
      replace p2 := Grown.cell p2
      replace p3 := Grown.cell p3
      replace p4 := Grown.cell p4
      replace p5 := Grown.cell p5
      replace p6 := Grown.cell p6
      have HG := Lib.hid fun F : Grown W2 => HSR.out F.1
      refine wp_region_grown W2 (Frm.refl _ _) (by kernel_rfl) (by kernel_rfl) ?_
      repeat (go_big_quiet_step ((go_at_call 72; exact Calls.grown_of (HG.out _))))
      refine wpQuiet_nil ?_
      intro wq hq
      have HQ := Lib.hid (F2.out.then_ hq)
      have c2 := hq.cell HP2.out id
      clear hq p0 p1 p2 p3 p4 p5 p6
      clear c2
      go_wp2_with fail
      go_ret2
      exact ⟨rfl, HQ.out⟩
end Go.Proofs.YtmjpaaippilioaaDoor
