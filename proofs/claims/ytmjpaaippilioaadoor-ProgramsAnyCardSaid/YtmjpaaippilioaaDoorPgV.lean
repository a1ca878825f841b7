import Derived.Test.YtmjpaaippilioaaDoorPgU
import Derived.Test.YtmjpaaippilioaaDoorMkE
namespace Go.Proofs.YtmjpaaippilioaaDoor
open Go.RowKit
def Few20 (l : List ByteArray) : Prop := ∀ y ∈ l, y.data.toList.length ≤ 20
theorem Few20.nil : Few20 [] := fun _ h => by cases h
theorem Few20.cons {x : ByteArray} {l : List ByteArray} (hx : x.data.toList.length ≤ 20) (h : Few20 l) : Few20 (x :: l) := fun y hy => by
  rcases List.mem_cons.1 hy with rfl | hy
  · exact hx
  · exact h y hy
theorem Few20.app {l m : List ByteArray} (h : Few20 l) (k : Few20 m) : Few20 (l ++ m) := fun y hy => (List.mem_append.1 hy).elim (h y) (k y)
theorem Few20.ite {c : Prop} [Decidable c] {l : List ByteArray} (h : Few20 l) : Few20 (if c then l else []) := by
  split
  · exact h
  · exact .nil
theorem ite_len {c : Prop} [Decidable c] {l : List ByteArray} : (if c then l else []).length ≤ l.length := by
  split
  · exact Nat.le_refl _
  · exact Nat.zero_le _
theorem dec_few (n : Int) (h0 : -1 ≤ n) (h1 : n < 256) : (dec n).data.toList.length ≤ 20 := by
  have hb : ∀ b : Nat, b < 256 → (dec (b : Int)).data.toList.length ≤ 20 := by decide +kernel
  have hm : (dec (-1)).data.toList.length ≤ 20 := by decide +kernel
  rcases Int.lt_or_le n 0 with h | h
  · obtain rfl : n = -1 := by omega
    exact hm
  · have := hb n.toNat (by omega)
    rwa [Int.toNat_of_nonneg h] at this
theorem Ut_few (k : Nat) : (Ut k).word.data.toList.length ≤ 20 ∧ (Ut k).flag.data.toList.length ≤ 20 := by
  have hb : ∀ k, k < 26 → (Ut k).word.data.toList.length ≤ 20 ∧ (Ut k).flag.data.toList.length ≤ 20 := by decide +kernel
  rcases Nat.lt_or_ge k 26 with h | h
  · exact hb k h
  · have hl : usesL.length = 26 := by decide
    have : Ut k = ⟨⟨#[]⟩, 0, 0, false, ⟨#[]⟩, false, 0⟩ := by
      unfold Ut
      rw [List.getD_eq_getElem?_getD, List.getElem?_eq_none (by omega)]; rfl
    rw [this]; exact ⟨by decide, by decide⟩
/-! ### two words in a list behind a box -/
theorem tl_new (w : World) {B : Nat} (hB : B ≤ w.heap.size) (a c : ByteArray) : Sl (w.alloc (.cells #[.string a, .string c] 9)) B 1 (some ⟨w.heap.size, 0, none⟩) 2 2 (strs [a, c]) :=
  Sl.new w hB 9 _ rfl (Nat.le_refl _) (by unfold maxLen; omega) rfl
theorem tl_a (w : World) {B : Nat} (hB : B ≤ w.heap.size) (a c : ByteArray) : TL ((w.alloc (.cells #[.string a, .string c] 9)).alloc (.cells #[.slice (some ⟨w.heap.size, 0, none⟩) 2 2] 84)) B (w.heap.size + 1) [a, c] := by
  have hs : (w.alloc (.cells #[.string a, .string c] 9)).heap.size = w.heap.size + 1 := by simp
  refine ⟨some ⟨w.heap.size, 0, none⟩, 2, ?_, ?_, (tl_new w hB a c).alloc _, ?_⟩
  · rw [← hs, World.cell?_alloc_new]; rfl
  · rw [← hs]; exact World.frozen?_alloc_new _ _ _ _
  · rw [blk_some]; omega
theorem tl_b (w : World) {B : Nat} (hB : B ≤ w.heap.size) (a c : ByteArray) : TL ((w.alloc (.cells #[.slice (some ⟨w.heap.size + 1, 0, none⟩) 2 2] 84)).alloc (.cells #[.string a, .string c] 9)) B w.heap.size [a, c] := by
  have hs : (w.alloc (.cells #[.slice (some ⟨w.heap.size + 1, 0, none⟩) 2 2] 84)).heap.size = w.heap.size + 1 := by simp
  have h0 : (w.alloc (.cells #[.slice (some ⟨w.heap.size + 1, 0, none⟩) 2 2] 84)).cell? ⟨w.heap.size, 0, none⟩ = some (.slice (some ⟨w.heap.size + 1, 0, none⟩) 2 2) := by rw [World.cell?_alloc_new]; rfl
  have hn := tl_new (w.alloc (.cells #[.slice (some ⟨w.heap.size + 1, 0, none⟩) 2 2] 84)) (B := B) (by omega) a c
  rw [hs] at hn
  refine ⟨some ⟨w.heap.size + 1, 0, none⟩, 2, ((Frm.refl _ fun _ => False).alloc _).cell h0 id, ?_, hn, ?_⟩
  · exact (((Frm.refl _ fun _ => False).alloc _).frozen (p := ⟨w.heap.size, 0, none⟩) (World.block_lt_of_cell? _ _ h0) id).trans (World.frozen?_alloc_new _ _ _ _)
  · rw [blk_some]; omega
theorem tl_c (w : World) {B g : Nat} (hB : B ≤ w.heap.size) (hg : g < w.heap.size) (h0 : w.cell? ⟨g, 0, none⟩ = some (.slice none 0 0)) (h1 : w.frozen? ⟨g, 0, none⟩ = false) (a c : ByteArray) :
    TL ((w.setCell ⟨g, 0, none⟩ (.slice (some ⟨w.heap.size, 0, none⟩) 2 2)).alloc (.cells #[.string a, .string c] 9)) B g [a, c] := by
  have hs : (w.setCell ⟨g, 0, none⟩ (.slice (some ⟨w.heap.size, 0, none⟩) 2 2)).heap.size = w.heap.size := by simp [World.setCell]
  have h2 : (w.setCell ⟨g, 0, none⟩ (.slice (some ⟨w.heap.size, 0, none⟩) 2 2)).cell? ⟨g, 0, none⟩ = some (.slice (some ⟨w.heap.size, 0, none⟩) 2 2) := World.cell?_setCell_same _ _ _ h0
  have hn := tl_new (w.setCell ⟨g, 0, none⟩ (.slice (some ⟨w.heap.size, 0, none⟩) 2 2)) (B := B) (by omega) a c
  rw [hs] at hn
  refine ⟨some ⟨w.heap.size, 0, none⟩, 2, ((Frm.refl _ fun _ => False).alloc _).cell h2 id, ?_, hn, ?_⟩
  · exact (((Frm.refl _ fun _ => False).alloc _).frozen (p := ⟨g, 0, none⟩) (World.block_lt_of_cell? _ _ h2) id).trans ((World.frozen?_setCell ..).trans h1)
  · rw [blk_some]; omega
theorem words_few {x : OpR} {l : List ByteArray} (h : mayO Ut x = true) (hl : l = wordsO x) : (Lib.join (l.map (·.data.toList)) [32]).length ≤ 1000 := by
  unfold mayO at h
  simp only [Bool.and_eq_true, decide_eq_true_eq] at h
  obtain ⟨-, ⟨ha0, ha1⟩, ⟨ho0, ho1⟩, ⟨ht0, ht1⟩, ⟨hg0, hg1⟩, -⟩ := h
  obtain ⟨u1, u2⟩ := Ut_few x.k.toNat
  have hF : Few20 l := by
    rw [hl]; unfold wordsO
    refine ((((((Few20.cons u1 (.cons (dec_few _ (by omega) (by omega)) .nil)).app (.ite (.cons (by decide) (.cons (dec_few _ (by omega) (by omega)) .nil)))).app (.ite (.cons (by decide) (.cons (dec_few _ (by omega) (by omega)) .nil)))).app (.ite (.cons (by decide) (.cons (dec_few _ ht0 (by omega)) .nil)))).app (.ite (.cons u2 .nil))).app (.ite (.cons (by decide) .nil))).app (.ite (.cons (by decide) (.cons (dec_few _ (by omega) (by omega)) .nil)))
  have hn : l.length ≤ 14 := by
    rw [hl]; unfold wordsO
    simp only [List.length_append]
    refine Nat.le_trans (Nat.add_le_add (Nat.add_le_add (Nat.add_le_add (Nat.add_le_add (Nat.add_le_add (Nat.add_le_add (Nat.le_refl _) ite_len) ite_len) ite_len) ite_len) ite_len) ite_len) ?_
    simp only [List.length_cons, List.length_nil]
    decide
  refine Nat.le_trans (join_le _ _) (Nat.le_trans (sum_le _ _ 21 ?_) ?_)
  · intro y hy
    obtain ⟨z, hz, rfl⟩ := List.mem_map.1 hy
    have := hF z hz
    simp only [List.length_cons, List.length_nil]; omega
  · rw [List.length_map]; exact Nat.le_trans (Nat.mul_le_mul_right _ hn) (by decide)
set_option maxRecDepth 100000 in
set_option maxHeartbeats 4000000 in
theorem text_yes (x : OpR) (k : Nat) (hk : x.k = k) (hk26 : k < 26) (hm : mayO Ut x = true) (w : World) (h1 : T1 w) (hp : Pow w) : Calls Tryd.prog 48 #[x.V] w fun e w' => e = .returned (.string (textO x)) ∧ Frm w w' fun _ => False := by
  have hM : ∀ v, (Frm w v fun _ => False) → Calls Tryd.prog 46 #[x.V] v fun e w' => e = .returned (.bool true) ∧ Frm v w' fun _ => False := fun v hv => by
    have h2 := h1.new_ hv
    have := mayP_any Ut x k hk (by omega) v h2.tabs h2.size
    rw [hm] at this
    exact this
  have hmb := hm
  unfold mayO at hmb
  simp only [Bool.and_eq_true, decide_eq_true_eq] at hmb
  obtain ⟨-, ⟨ha0, ha1⟩, ⟨ho0, ho1⟩, ⟨ht0, ht1⟩, ⟨hg0, hg1⟩, -⟩ := hmb
  have c := fun j v hv => h1.tabs.u k hk26 j v hv
  obtain ⟨⟨uw, uf, uo, ut, ufl, ufa, ua⟩, hu⟩ : ∃ u, Ut k = u := ⟨_, rfl⟩
  rw [hu] at c
  have c0 : w.cell? ⟨3, k * 7, none⟩ = some (.string uw) := c 0 _ rfl
  have c1 : w.cell? ⟨3, k * 7 + 1, none⟩ = some (.int .u32 uf) := c 1 _ rfl
  have c2 : w.cell? ⟨3, k * 7 + 2, none⟩ = some (.int .u32 uo) := c 2 _ rfl
  have c3 : w.cell? ⟨3, k * 7 + 3, none⟩ = some (.bool ut) := c 3 _ rfl
  have c4 : w.cell? ⟨3, k * 7 + 4, none⟩ = some (.string ufl) := c 4 _ rfl
  have c5 : w.cell? ⟨3, k * 7 + 5, none⟩ = some (.bool ufa) := c 5 _ rfl
  have c6 : w.cell? ⟨3, k * 7 + 6, none⟩ = some (.int .i64 ua) := c 6 _ rfl
  have HU := Lib.hid hu
  have HX := Lib.hid hm
  have HP := Lib.hid hp
  have h4 := h1.size
  obtain ⟨xk, xa, xo, xt, xfl, xfa, xg⟩ := x
  have hk : xk = k := hk
  subst hk
  have k0 : (0 : Int) ≤ (k : Int) := by omega
  have k1 : (k : Int) < 26 := by omega
  have z0 : 5 < w.heap.size := hp.size
  have HM := Lib.hid hM
  simp only at ha0 ha1 ho0 ho1 ht0 ht1 hg0 hg1
  clear hM hm h1 c hu hp h4
  go_enter Tryd.func48, Tryd.ntmps48
  go_upto_region 1 with fail
  refine at_world' ?_
  intro W hW
  have hF : Frm w W fun _ => False := by rw [hW]; exact ((Frm.refl _ _).alloc _)
  have p0 : W.cell? ⟨w.heap.size, 0, none⟩ = some (.int .u8 k) := by subst hW; go_simp
  have p1 : W.cell? ⟨w.heap.size, 1, none⟩ = some (.int .i64 xa) := by subst hW; go_simp
  have p2 : W.cell? ⟨w.heap.size, 2, none⟩ = some (.int .i64 xo) := by subst hW; go_simp
  have p3 : W.cell? ⟨w.heap.size, 3, none⟩ = some (.int .i64 xt) := by subst hW; go_simp
  have p4 : W.cell? ⟨w.heap.size, 4, none⟩ = some (.bool xfl) := by subst hW; go_simp
  have p5 : W.cell? ⟨w.heap.size, 5, none⟩ = some (.bool xfa) := by subst hW; go_simp
  have p6 : W.cell? ⟨w.heap.size, 6, none⟩ = some (.int .i64 xg) := by subst hW; go_simp
  have hsW : W.heap.size = w.heap.size + 1 := by subst hW; simp
  clear hW
  obtain ⟨b, hb⟩ : ∃ b, w.heap.size = b := ⟨_, rfl⟩
  rw [hb] at p0 p1 p2 p3 p4 p5 p6 hsW z0 ⊢
  go_upto_region 3 with (go_at_call 46; refine (HM.out _ hF).mono ?_; rintro e w' ⟨rfl, hf⟩)
  have hF2 := hF.then_ hf
  have hz := hf.size
  replace c0 := hF2.cell c0 id
  replace c1 := hF2.cell c1 id
  replace c2 := hF2.cell c2 id
  replace c3 := hF2.cell c3 id
  replace c4 := hF2.cell c4 id
  replace c5 := hF2.cell c5 id
  replace c6 := hF2.cell c6 id
  replace p0 := hf.cell p0 id
  replace p1 := hf.cell p1 id
  replace p2 := hf.cell p2 id
  replace p3 := hf.cell p3 id
  replace p4 := hf.cell p4 id
  replace p5 := hf.cell p5 id
  replace p6 := hf.cell p6 id
  have HF := Lib.hid hF2
  have y0 : 3 < w'.heap.size := by omega
  have y1 : (3 : Nat) ≠ w'.heap.size := by omega
  have y2 : b < w'.heap.size := by omega
  have y3 : b ≠ w'.heap.size := by omega
  clear hF hf hF2 hsW hz
  go_upto_region 4 with fail
  refine at_world' ?_
  intro V hV
  have hG : Frm w' V fun _ => False := by
    rw [hV]
    repeat (first | exact Frm.refl _ _ | with_reducible refine Frm.drew ?_ | with_reducible refine Frm.alloc ?_ _ | with_reducible refine Frm.setCell ?_ (fun h => absurd h (Nat.lt_irrefl _)) _)
  have r0 : V.cell? ⟨w'.heap.size, 0, none⟩ = some (.string uw) := by subst hV; go_simp
  have r4 : V.cell? ⟨w'.heap.size, 4, none⟩ = some (.string ufl) := by subst hV; go_simp
  have r6 : V.cell? ⟨w'.heap.size, 6, none⟩ = some (.int .i64 ua) := by subst hV; go_simp
  have hzV : V.heap.size = w'.heap.size + 1 := by subst hV; simp
  replace p0 := hG.cell p0 id
  replace p1 := hG.cell p1 id
  replace p2 := hG.cell p2 id
  replace p3 := hG.cell p3 id
  replace p4 := hG.cell p4 id
  replace p5 := hG.cell p5 id
  replace p6 := hG.cell p6 id
  have HV := Lib.hid (HF.out.then_ hG)
  clear hV hG c0 c1 c2 c3 c4 c5 c6
  obtain ⟨u, hu⟩ : ∃ u, w'.heap.size = u := ⟨_, rfl⟩
  rw [hu] at r0 r4 r6 hzV y0 y1 y2 y3 ⊢
  have HP5 := Lib.hid (show 5 < V.heap.size by omega)
  have g1 : u < V.heap.size := by omega
  have g2 : u ≠ V.heap.size := by omega
  have g3 : b < V.heap.size := by omega
  have g4 : b ≠ V.heap.size := by omega
  have HI := Lib.hid fun (v : World) (hv : Frm V v fun _ => False) => itoa_any xa (by omega) (by omega) v (HP.out.frm (HV.out.then_ hv) id)
  have R := Lib.hid (And.intro r0 (And.intro p1 p0))
  have hn0 : (V.drew.alloc (.cells #[.slice none 0 0] 84)).cell? ⟨V.heap.size, 0, none⟩ = some (.slice none 0 0) := by
    rw [show V.heap.size = V.drew.heap.size from rfl, World.cell?_alloc_new]; rfl
  have hn1 : (V.drew.alloc (.cells #[.slice none 0 0] 84)).frozen? ⟨V.heap.size, 0, none⟩ = false := by
    rw [show V.heap.size = V.drew.heap.size from rfl]; exact World.frozen?_alloc_new _ _ _ _
  have HN0 := Lib.hid hn0
  have HN1 := Lib.hid hn1
  clear hu hzV y0 y1 y2 y3 hn0 hn1
  go_cut [4] from 13 to 18 (fun s4 wx => ∃ bl, s4 = .pointer (some ⟨bl, 0, none⟩) ∧ V.heap.size ≤ bl ∧ TL wx V.heap.size bl [uw, dec xa] ∧ Frm V wx fun _ => False)
  case first =>
    go_region_law (first
      | (refine step_call1 rfl 75 Tryd.func75 f75n f75b (.tmp 16) _ rfl (.int .i64 xa) rfl (HI.out (V.alloc (.cells #[.slice none 0 0] 84)).drew (((Frm.refl _ _).alloc _).drew)) ?_; rintro e w5 ⟨rfl, hf5⟩; refine ⟨_, rfl, ?_⟩; have d7 := hf5.cell HN0.out id; have d8 := (hf5.frozen (p := ⟨V.heap.size, 0, none⟩) (World.block_lt_of_cell? _ _ HN0.out) id).trans HN1.out; have F5 := Lib.hid ((((Frm.refl V (fun _ => False)).drew).alloc (.cells #[.slice none 0 0] 84)).then_ hf5); clear hf5; have d5 := F5.out.cell R.out.1 id; have d6 := F5.out.cell R.out.2.1 id; have d9 : V.heap.size < w5.heap.size := World.block_lt_of_cell? _ _ d7; have d10 : V.heap.size ≠ w5.heap.size := Nat.ne_of_lt d9)
      | (refine step_call1 rfl 75 Tryd.func75 f75n f75b (.tmp 16) _ rfl (.int .i64 xa) rfl (HI.out _ (by (repeat (first | exact Frm.refl _ _ | apply Frm.drew | apply Frm.alloc)))) ?_; rintro e w5 ⟨rfl, hf5⟩; refine ⟨_, rfl, ?_⟩; have F5 := Lib.hid (Frm.then_ (a := V) (S := fun _ => False) (by (repeat (first | exact Frm.refl _ _ | apply Frm.drew | apply Frm.alloc))) hf5); clear hf5; have d5 := F5.out.cell R.out.1 id; have d6 := F5.out.cell R.out.2.1 id; have d11 := (F5.out.alloc (.cells #[.slice none 0 0] 84)).cell R.out.1 id; have d12 := (F5.out.alloc (.cells #[.slice none 0 0] 84)).cell R.out.2.1 id))
    all_goals
      go_wp2_with fail
      go_meet
      first
        | exact ⟨_, rfl, Nat.le_trans F5.out.size (Nat.le_succ _), tl_a _ F5.out.size _ _, (F5.out.alloc _).alloc _⟩
        | exact ⟨_, rfl, F5.out.size, tl_b _ F5.out.size _ _, (F5.out.alloc _).alloc _⟩
        | exact ⟨_, rfl, Nat.le_refl _, tl_c _ F5.out.size d9 d7 d8 _ _, (F5.out.setCell (fun h => absurd h (Nat.lt_irrefl _)) _).alloc _⟩
  case rest =>
    obtain ⟨bl, rfl, hbl, hT, hC⟩ := hcut
    obtain ⟨B, hB⟩ : ∃ B, V.heap.size = B := ⟨_, rfl⟩
    have h5 : 5 < B := by rw [← hB]; exact HP5.out
    rw [hB] at hT hbl g1 g3
    have hBw : B ≤ wc.heap.size := by rw [← hB]; exact hC.size
    replace p0 := hC.cell p0 id
    replace p1 := hC.cell p1 id
    replace p2 := hC.cell p2 id
    replace p3 := hC.cell p3 id
    replace p4 := hC.cell p4 id
    replace p5 := hC.cell p5 id
    replace p6 := hC.cell p6 id
    replace r4 := hC.cell r4 id
    replace r6 := hC.cell r6 id
    have HT := Lib.hid hT
    have HC := Lib.hid ((hC.none_ fun j => B ≤ j))
    have HBW := Lib.hid hBw
    have HPC := Lib.hid (HP.out.frm (HV.out.then_ hC) id)
    have nb : ¬ B ≤ b := by omega
    have nu : ¬ B ≤ u := by omega
    have HB1 := Lib.hid (And.intro h5 hbl)
    have HBV := Lib.hid hB
    clear hT hC HN0 HN1 HI R h5 hbl hBw hB g1 g2 g3 g4
    go_upto_region 7 with (go_at_call 76; refine (word_any _ _ _ 1 _ [xo] B bl _ wc _ (HPC.out.frm (S := fun _ => False) ((Frm.refl _ _).alloc _) id) HB1.out.1 HT.out ((Frm.refl _ _).alloc _) (Nat.le_trans HBW.out (by simp)) HB1.out.2 (NsAt.one _ _ _) (by decide) (by simp) (by intro n hn; rw [List.mem_singleton] at hn; subst hn; omega)).mono ?_; rintro e w6 ⟨⟨v6, rfl⟩, hT, hf⟩)
    obtain ⟨x6, hx6⟩ : ∃ l, l = [uw, dec xa] ++ (if (k : Int) == 17 then (⟨#[111, 102]⟩ : ByteArray) :: [xo].map dec else []) := ⟨_, rfl⟩
    have HX6 := Lib.hid hx6
    have HXL := Lib.hid (show x6.length ≤ 4 by rw [hx6, List.length_append]; have := (show [uw, dec xa].length ≤ 2 from Nat.le_refl _); split <;> simp only [List.length_cons, List.length_nil, List.length_map] <;> omega)
    replace HT := Lib.hid (show TL w6 B bl x6 by rw [hx6]; exact hT)
    have hC := HC.out.then_ ((((Frm.refl wc fun _ => False).alloc _).none_ fun j => B ≤ j).then_ hf)
    have hD := ((((Frm.refl wc fun _ => False).alloc _).none_ fun j => B ≤ j).then_ hf)
    clear hT hf hx6
    replace HC := Lib.hid hC
    replace HPC := Lib.hid (HPC.out.frm hD (show ¬ B ≤ 5 by have := HB1.out.1; omega))
    replace HBW := Lib.hid (Nat.le_trans HBW.out hD.size)
    replace p0 := hD.cell p0 nb
    replace p1 := hD.cell p1 nb
    replace p2 := hD.cell p2 nb
    replace p3 := hD.cell p3 nb
    replace p4 := hD.cell p4 nb
    replace p5 := hD.cell p5 nb
    replace p6 := hD.cell p6 nb
    replace r4 := hD.cell r4 nu
    replace r6 := hD.cell r6 nu
    clear hC hD
    go_upto_region 8 with (go_at_call 76; refine (word_any _ _ _ 1 _ [xo] B bl _ w6 _ (HPC.out.frm (S := fun _ => False) ((Frm.refl _ _).alloc _) id) HB1.out.1 HT.out ((Frm.refl _ _).alloc _) (Nat.le_trans HBW.out (by simp)) HB1.out.2 (NsAt.one _ _ _) (by decide) (Nat.le_trans HXL.out (by decide)) (by intro n hn; rw [List.mem_singleton] at hn; subst hn; omega)).mono ?_; rintro e w7 ⟨⟨v7, rfl⟩, hT, hf⟩)
    obtain ⟨x7, hx7⟩ : ∃ l, l = x6 ++ (if (k : Int) == 25 then (⟨#[116, 111]⟩ : ByteArray) :: [xo].map dec else []) := ⟨_, rfl⟩
    have HX7 := Lib.hid hx7
    have HXL := Lib.hid (show x7.length ≤ 6 by rw [hx7, List.length_append]; have := HXL.out; split <;> simp only [List.length_cons, List.length_nil, List.length_map] <;> omega)
    replace HT := Lib.hid (show TL w7 B bl x7 by rw [hx7]; exact hT)
    have hC := HC.out.then_ ((((Frm.refl w6 fun _ => False).alloc _).none_ fun j => B ≤ j).then_ hf)
    have hD := ((((Frm.refl w6 fun _ => False).alloc _).none_ fun j => B ≤ j).then_ hf)
    clear hT hf hx7
    replace HC := Lib.hid hC
    replace HPC := Lib.hid (HPC.out.frm hD (show ¬ B ≤ 5 by have := HB1.out.1; omega))
    replace HBW := Lib.hid (Nat.le_trans HBW.out hD.size)
    replace p0 := hD.cell p0 nb
    replace p1 := hD.cell p1 nb
    replace p2 := hD.cell p2 nb
    replace p3 := hD.cell p3 nb
    replace p4 := hD.cell p4 nb
    replace p5 := hD.cell p5 nb
    replace p6 := hD.cell p6 nb
    replace r4 := hD.cell r4 nu
    replace r6 := hD.cell r6 nu
    clear hC hD
    go_upto_region 9 with (go_at_call 76; refine (word_any _ _ _ 1 _ [xt] B bl _ w7 _ (HPC.out.frm (S := fun _ => False) ((Frm.refl _ _).alloc _) id) HB1.out.1 HT.out ((Frm.refl _ _).alloc _) (Nat.le_trans HBW.out (by simp)) HB1.out.2 (NsAt.one _ _ _) (by decide) (Nat.le_trans HXL.out (by decide)) (by intro n hn; rw [List.mem_singleton] at hn; subst hn; omega)).mono ?_; rintro e w8 ⟨⟨v8, rfl⟩, hT, hf⟩)
    obtain ⟨x8, hx8⟩ : ∃ l, l = x7 ++ (if decide (0 ≤ xt) then (⟨#[105, 110]⟩ : ByteArray) :: [xt].map dec else []) := ⟨_, rfl⟩
    have HX8 := Lib.hid hx8
    have HXL := Lib.hid (show x8.length ≤ 8 by rw [hx8, List.length_append]; have := HXL.out; split <;> simp only [List.length_cons, List.length_nil, List.length_map] <;> omega)
    replace HT := Lib.hid (show TL w8 B bl x8 by rw [hx8]; exact hT)
    have hC := HC.out.then_ ((((Frm.refl w7 fun _ => False).alloc _).none_ fun j => B ≤ j).then_ hf)
    have hD := ((((Frm.refl w7 fun _ => False).alloc _).none_ fun j => B ≤ j).then_ hf)
    clear hT hf hx8
    replace HC := Lib.hid hC
    replace HPC := Lib.hid (HPC.out.frm hD (show ¬ B ≤ 5 by have := HB1.out.1; omega))
    replace HBW := Lib.hid (Nat.le_trans HBW.out hD.size)
    replace p0 := hD.cell p0 nb
    replace p1 := hD.cell p1 nb
    replace p2 := hD.cell p2 nb
    replace p3 := hD.cell p3 nb
    replace p4 := hD.cell p4 nb
    replace p5 := hD.cell p5 nb
    replace p6 := hD.cell p6 nb
    replace r4 := hD.cell r4 nu
    replace r6 := hD.cell r6 nu
    clear hC hD
    go_upto_region 10 with (go_at_call 76; refine (word_any _ _ _ 0 _ [] B bl _ w8 _ HPC.out HB1.out.1 HT.out (Frm.refl _ _) HBW.out HB1.out.2 (NsAt.nil _ _ _) (by decide) (Nat.le_trans HXL.out (by decide)) (by intro n hn; cases hn)).mono ?_; rintro e w9 ⟨⟨v9, rfl⟩, hT, hf⟩)
    obtain ⟨x9, hx9⟩ : ∃ l, l = x8 ++ (if xfl then ufl :: ([] : List Int).map dec else []) := ⟨_, rfl⟩
    have HX9 := Lib.hid hx9
    have HXL := Lib.hid (show x9.length ≤ 10 by rw [hx9, List.length_append]; have := HXL.out; split <;> simp only [List.length_cons, List.length_nil, List.length_map] <;> omega)
    replace HT := Lib.hid (show TL w9 B bl x9 by rw [hx9]; exact hT)
    have hC := HC.out.then_ hf
    have hD := hf
    clear hT hf hx9
    replace HC := Lib.hid hC
    replace HPC := Lib.hid (HPC.out.frm hD (show ¬ B ≤ 5 by have := HB1.out.1; omega))
    replace HBW := Lib.hid (Nat.le_trans HBW.out hD.size)
    replace p0 := hD.cell p0 nb
    replace p1 := hD.cell p1 nb
    replace p2 := hD.cell p2 nb
    replace p3 := hD.cell p3 nb
    replace p4 := hD.cell p4 nb
    replace p5 := hD.cell p5 nb
    replace p6 := hD.cell p6 nb
    replace r4 := hD.cell r4 nu
    replace r6 := hD.cell r6 nu
    clear hC hD
    go_upto_region 11 with (go_at_call 76; refine (word_any _ _ _ 0 _ [] B bl _ w9 _ HPC.out HB1.out.1 HT.out (Frm.refl _ _) HBW.out HB1.out.2 (NsAt.nil _ _ _) (by decide) (Nat.le_trans HXL.out (by decide)) (by intro n hn; cases hn)).mono ?_; rintro e w10 ⟨⟨v10, rfl⟩, hT, hf⟩)
    obtain ⟨x10, hx10⟩ : ∃ l, l = x9 ++ (if xfa then (⟨#[102, 97, 105, 108, 115]⟩ : ByteArray) :: ([] : List Int).map dec else []) := ⟨_, rfl⟩
    have HX10 := Lib.hid hx10
    have HXL := Lib.hid (show x10.length ≤ 12 by rw [hx10, List.length_append]; have := HXL.out; split <;> simp only [List.length_cons, List.length_nil, List.length_map] <;> omega)
    replace HT := Lib.hid (show TL w10 B bl x10 by rw [hx10]; exact hT)
    have hC := HC.out.then_ hf
    have hD := hf
    clear hT hf hx10
    replace HC := Lib.hid hC
    replace HPC := Lib.hid (HPC.out.frm hD (show ¬ B ≤ 5 by have := HB1.out.1; omega))
    replace HBW := Lib.hid (Nat.le_trans HBW.out hD.size)
    replace p0 := hD.cell p0 nb
    replace p1 := hD.cell p1 nb
    replace p2 := hD.cell p2 nb
    replace p3 := hD.cell p3 nb
    replace p4 := hD.cell p4 nb
    replace p5 := hD.cell p5 nb
    replace p6 := hD.cell p6 nb
    replace r4 := hD.cell r4 nu
    replace r6 := hD.cell r6 nu
    clear hC hD
    go_upto_region 12 with (go_at_call 76; refine (word_any _ _ _ 1 _ [xg] B bl _ w10 _ (HPC.out.frm (S := fun _ => False) ((Frm.refl _ _).alloc _) id) HB1.out.1 HT.out ((Frm.refl _ _).alloc _) (Nat.le_trans HBW.out (by simp)) HB1.out.2 (NsAt.one _ _ _) (by decide) (Nat.le_trans HXL.out (by decide)) (by intro n hn; rw [List.mem_singleton] at hn; subst hn; omega)).mono ?_; rintro e w11 ⟨⟨v11, rfl⟩, hT, hf⟩)
    obtain ⟨x11, hx11⟩ : ∃ l, l = x10 ++ (if decide (0 < ua) then (⟨#[98, 121]⟩ : ByteArray) :: [xg].map dec else []) := ⟨_, rfl⟩
    have HX11 := Lib.hid hx11
    have HXL := Lib.hid (show x11.length ≤ 14 by rw [hx11, List.length_append]; have := HXL.out; split <;> simp only [List.length_cons, List.length_nil, List.length_map] <;> omega)
    replace HT := Lib.hid (show TL w11 B bl x11 by rw [hx11]; exact hT)
    have hC := HC.out.then_ ((((Frm.refl w10 fun _ => False).alloc _).none_ fun j => B ≤ j).then_ hf)
    have hD := ((((Frm.refl w10 fun _ => False).alloc _).none_ fun j => B ≤ j).then_ hf)
    clear hT hf hx11
    replace HC := Lib.hid hC
    replace HPC := Lib.hid (HPC.out.frm hD (show ¬ B ≤ 5 by have := HB1.out.1; omega))
    replace HBW := Lib.hid (Nat.le_trans HBW.out hD.size)
    replace p0 := hD.cell p0 nb
    replace p1 := hD.cell p1 nb
    replace p2 := hD.cell p2 nb
    replace p3 := hD.cell p3 nb
    replace p4 := hD.cell p4 nb
    replace p5 := hD.cell p5 nb
    replace p6 := hD.cell p6 nb
    replace r4 := hD.cell r4 nu
    replace r6 := hD.cell r6 nu
    clear hC hD
    obtain ⟨A, cap, e0, -, hS, -⟩ := HT.out
    have hl2 : 2 ≤ x11.length := by rw [HX11.out, HX10.out, HX9.out, HX8.out, HX7.out, HX6.out]; simp only [List.length_append, List.length_cons, List.length_nil]; omega
    obtain ⟨g, off, rfl, -, hgl, hcell, -⟩ := hS.form (Nat.lt_of_lt_of_le (by omega) hS.le)
    have hwords : x11 = wordsO ⟨(k : Int), xa, xo, xt, xfl, xfa, xg⟩ := by
      rw [HX11.out, HX10.out, HX9.out, HX8.out, HX7.out, HX6.out]
      simp only [wordsO, Int.toNat_natCast, HU.out, List.map_cons, List.map_nil]
    have HJ := Lib.hid (Tryd.strings_Join g off cap x11 ⟨#[32]⟩ w11 (fun j y hy => hcell j _ (by unfold strs; rw [List.getElem?_map, hy]; rfl)) hgl (Nat.le_trans HXL.out (by decide)) hS.le (by
      refine Nat.le_trans (words_few HX.out hwords) (by decide)))
    have HWR := Lib.hid hwords
    clear hS hl2 hcell hwords hgl
    go_wp2_with (go_at_call 77; refine HJ.out.mono ?_; rintro e w12 ⟨rfl, hf⟩)
    go_ret
    refine ⟨?_, ?_⟩
    · rw [textO, if_pos HX.out, HWR.out]; rfl
    · exact HV.out.then_ ((HC.out.mono fun j hj hB => absurd hB (by rw [← HBV.out]; omega)).then_ ((Frm.of_below hf).mono fun j hj hB => absurd hB (by omega)))
/-- Tables for all of it. -/
structure T2 (w : World) : Prop where
  t1 : T1 w
  pow : Pow w
theorem T2.new_ {w w' : World} (h : T2 w) (hf : Frm w w' fun _ => False) : T2 w' := ⟨h.t1.new_ hf, h.pow.frm hf id⟩
theorem text_any (x : OpR) (h0 : 0 ≤ x.k) (h1 : x.k < 256) (w : World) (h : T2 w) : Calls Tryd.prog 48 #[x.V] w fun e w' => e = .returned (.string (textO x)) ∧ Frm w w' fun _ => False := by
  have hk : x.k = (x.k.toNat : Int) := by omega
  cases hm : mayO Ut x with
  | true =>
    have h26 : x.k < 26 := by
      unfold mayO at hm
      simp only [Bool.and_eq_true, decide_eq_true_eq] at hm
      exact hm.1
    exact text_yes x x.k.toNat hk (by omega) hm w h.t1 h.pow
  | false =>
    have := text_no x x.k.toNat hk (by omega) hm w h.t1
    unfold textO
    rw [hm, if_neg (by decide)]
    exact this
end Go.Proofs.YtmjpaaippilioaaDoor
