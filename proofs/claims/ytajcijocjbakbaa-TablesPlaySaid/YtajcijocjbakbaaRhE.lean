import Derived.Test.YtajcijocjbakbaaRhD
import Derived.Deep.RegionHeld
import Derived.Test.YtajcijocjbakbaaSlc
import Derived.Test.YtajcijocjbakbaaRhJ
namespace Go.Proofs.Ytajcijocjbakbaa
open Go.RowKit
attribute [local go_sem] Oper.semAt_some

theorem at_worldIn {F : Fence} {n : Nat} {P : Program} {c : Code} {Q : Exit → Act → World → Prop} {a : Act} {w : World} (h : ∀ W, W = w → c.wpIn F n P Q a W) : c.wpIn F n P Q a w := h w rfl
/-- It comes to its end, and in no other way. -/
def onlyN (K : Act → World → Prop) : Exit → Act → World → Prop
  | .normal, a, w => K a w
  | _, _, _ => False
theorem wp_onlyN {P : Program} {c : Code} {Q : Exit → Act → World → Prop} {a : Act} {w : World} (h : c.wp P (onlyN (Q .normal)) a w) : c.wp P Q a w :=
  wp_mono h fun e _ _ he => by cases e <;> first | exact he | exact False.elim he
theorem info22 : (Try.prog.info? 22).map (fun i => (i.zero, i.size, i.bytes)) = some (some (.slice none 0 0), 1, 24) := by kernel_rfl
theorem made_hds (n : Nat) : (madeCells (Value.slice none 0 0).cells (n * 1)).toList = hds (List.replicate n ⟨none, 0, 0⟩) := by
  unfold hds
  rw [List.map_replicate, Nat.mul_one]
  apply List.ext_getElem
  · simp [madeCells]
  · intro i h1 h2
    simp [madeCells, Value.cells, Nat.mod_one]
/-- The entries of the first k. -/
def upto (qs : List (List En)) (k : Nat) : List En := ((flat qs).take k).map (·.2)
theorem upto_succ (qs : List (List En)) (k : Nat) (h : k < (flat qs).length) : upto qs (k + 1) = upto qs k ++ [((flat qs)[k]).2] := by
  unfold upto
  rw [List.take_succ_eq_append_getElem h, List.map_append]
  rfl
theorem upto_all (qs : List (List En)) : upto qs (flat qs).length = qs.flatten := by
  unfold upto
  rw [List.take_length, flat_snd]
/-- Between two rounds of Rehash. b3: the bits' block; b5: the block of 'out'; g: that of its row. -/
def RI (nb b3 b5 g C : Nat) (qs : List (List En)) (w0 : World) (k : Nat) (V : World) : Prop :=
  V.cell? ⟨b3, 0, none⟩ = some (.int .i64 (nb : Nat)) ∧ V.cell? ⟨b5, 0, none⟩ = some (.slice (some ⟨g, 0, none⟩) (2 ^ nb) (2 ^ nb)) ∧
  (∃ hs, OwD V g C (some ⟨g, 0, none⟩) (2 ^ nb) (2 ^ nb) hs (bks nb (upto qs k))) ∧ Frm w0 V fun _ => False
theorem RI.frm {nb b3 b5 g C k : Nat} {qs : List (List En)} {w0 A B : World} {S : Nat → Prop} (h : RI nb b3 b5 g C qs w0 k A) (hf : Frm A B S) (h3 : ¬ S b3) (h5 : ¬ S b5) (hg : ¬ S g) (hC : ∀ j, C ≤ j → ¬ S j) (h0 : ∀ j, j < w0.heap.size → ¬ S j) : RI nb b3 b5 g C qs w0 k B := by
  obtain ⟨c3, c5, ⟨hs, ho⟩, hF⟩ := h
  exact ⟨hf.cell c3 h3, hf.cell c5 h5, ⟨hs, ho.frm hf (fun j hj hs => by rw [blk_some] at hj; subst hj; exact hg hs) (fun j hj _ => hC j hj)⟩, hF.trans hf fun j hj hs => h0 j hj hs⟩
set_option maxRecDepth 100000 in
set_option maxHeartbeats 2000000 in
theorem rehash_in (A : Option Addr) (n c nb : Nat) (hs : List Hd) (qs : List (List En)) (w : World) (h2 : 2 ≤ nb) (h8 : nb ≤ 8) (hr : RdD w w.heap.size A n hs qs) (hn : (n : Int) ≤ 4000) (hl : ∀ q ∈ qs, q.length ≤ 4000) (hok : ∀ q ∈ qs, ∀ x ∈ q, EnOk x) (htot : qs.flatten.length ≤ 4000) :
    Calls Try.prog 15 #[.slice A n c, .int .i64 nb] w fun e w' => ∃ g hs', e = .returned (.slice (some ⟨g, 0, none⟩) (2 ^ nb) (2 ^ nb)) ∧ OwD w' w.heap.size w.heap.size (some ⟨g, 0, none⟩) (2 ^ nb) (2 ^ nb) hs' (rehash nb qs) ∧ (∀ h ∈ hs', h.n = h.c) ∧ Frm w w' fun _ => False := by
  obtain ⟨i22, hi, hz0, hz1, hz2⟩ := info_parts info22
  have HSZ : ∀ V, Calls Try.prog 13 #[.int .i64 nb] V fun e w' => e = .returned (.int .i64 (2 ^ nb : Nat)) ∧ V = w' := fun V => by rw [← sz_pow nb h2 h8]; exact size_any _ _
  obtain ⟨z, hz⟩ : ∃ z, 2 ^ nb = z := ⟨_, rfl⟩
  have hz4 : 4 ≤ z := by rw [← hz]; exact Nat.pow_le_pow_right (n := 2) (by decide) h2
  have hz256 : z ≤ 256 := by rw [← hz]; exact Nat.pow_le_pow_right (n := 2) (by decide) h8
  rw [hz] at HSZ ⊢
  have HSZ := Lib.hid HSZ
  have HZ := Lib.hid hz
  have z0 : (0 : Int) < (z : Int) := by omega
  have zb : 24 * z ≤ 281474976710656 ∧ z ≤ maxLen := by unfold maxLen; omega
  have HR := Lib.hid hr
  clear hr hz
  refine (callsIn_wide (n := 0)).1 ?_
  refine callsIn_of_wp_marks Try.func15 rfl trivial ?_ rfl
  simp only [Try.ntmps15, List.size_toArray, List.length_cons, List.length_nil, Nat.reduceAdd, Nat.reduceSub, Array.replicate_succ, Array.replicate_zero, List.push_toArray, List.append_toArray, List.nil_append, List.cons_append]
  refine wpIn_wide.2 ?_
  go_wp2_with (first
    | (go_at_call 13; refine (HSZ.out _).mono ?_; rintro e w' ⟨rfl, rfl⟩)
    | (go_at_call 30; refine (entries_any _ _ _ _).mono ?_; rintro e w' ⟨rfl, rfl⟩)
    | (at_make; refine wpList_make_sl _ rfl (.tmp 14) (.tmp 14) 28 rfl 22 i22 _ 1 Try.underlying28 hi hz0 hz1 _ _ _ _ z rfl rfl rfl rfl (by rw [hz2]; exact zb.1) zb.2 ?_; intro w1 hs1 hf1 hw1; rw [made_hds] at hs1; have S1 := Lib.hid hs1; have F1 := Lib.hid hf1; have W1 := Lib.hid hw1; clear hs1 hf1 hw1))
  refine at_world' ?_
  intro W hW
  have hsW : W.heap.size = w1.heap.size + 2 := by rw [hW]; simp
  have hs1 : w.heap.size + 1 < w1.heap.size := by have := W1.out; rw [World.size_alloc] at this; exact this
  have hF0 : Frm w w1 fun _ => False := ((Frm.refl w fun _ => False).alloc (.cells #[.int .i64 nb] 3)).then_ F1.out
  have hFW : Frm w1 W fun _ => False := by rw [hW]; exact ((Frm.refl _ _).alloc _).alloc _
  have b3 : W.cell? ⟨w.heap.size, 0, none⟩ = some (.int .i64 nb) := hFW.cell (F1.out.cell (by rw [World.cell?_alloc_new]; rfl) id) id
  have b5 : W.cell? ⟨w1.heap.size, 0, none⟩ = some (.slice (some ⟨w.heap.size + 1, 0, none⟩) z z) := by rw [hW, World.cell?_alloc_past _ _ _ (by simp), World.cell?_alloc_new]; rfl
  have bb : W.cell? ⟨w1.heap.size + 1, 0, none⟩ = some (.slice A n c) := by rw [hW]; simp
  have hsl := S1.out
  rw [World.size_alloc] at hsl
  have hO : OwD W (w.heap.size + 1) (W.heap.size + 2) (some ⟨w.heap.size + 1, 0, none⟩) z z (List.replicate z ⟨none, 0, 0⟩) (List.replicate z []) := OwD.made (hsl.new_ hFW) _
  have hseq := entries_seq (w1.heap.size + 1) w.heap.size A n c hs qs (fun j => j = w.heap.size + 1) W bb (HR.out.below ((hF0.then_ hFW).below (fun _ _ => id) (Nat.le_refl _))) (hF0.then_ hFW).size (fun j hj h => by omega) (by omega) (fun q hq => by have := hl q hq; omega)
  clear hW bb
  have hFF := hF0.then_ hFW
  refine wpIn_wide.1 (wpIn_range (gf := 47) (lb := #[.pointer (some ⟨w1.heap.size + 1, 0, none⟩)]) rfl (enters_of Try.func47 (by kernel_rfl) rfl) hseq (fun j h => h.elim) (fun j h => by have h : j = w.heap.size + 1 := h; omega) (fun _ => rfl) (RI nb w.heap.size w1.heap.size (w.heap.size + 1) (W.heap.size + 2) qs w) (fun _ _ _ => False)
    (fun k X Y h hf => h.frm hf (by simp; omega) (by simp; omega) (by simp; omega) (fun j hj => by simp; omega) (fun j hj => by simp; omega)) (fun _ _ _ _ h _ => h.elim) ⟨b3, by rw [HZ.out]; exact b5, ⟨_, by rw [HZ.out]; show OwD W _ _ _ z z _ (bks nb []); rw [bks_nil, HZ.out]; exact hO⟩, hFF⟩ ?round ?done ?stop)
  case round =>
    intro k hkl V hI hsV
    obtain ⟨c3, c5, ⟨hv, ho⟩, hF⟩ := hI
    obtain ⟨⟨i, x⟩, hx⟩ : ∃ p, (flat qs)[k] = p := ⟨_, rfl⟩
    rw [hx]
    have hxok : EnOk x := by
      have h1 : x ∈ qs.flatten := by rw [← flat_snd]; exact List.mem_map.2 ⟨(i, x), by rw [← hx]; exact List.getElem_mem hkl, rfl⟩
      obtain ⟨q, hq, h2⟩ := List.mem_flatten.1 h1
      exact hok q hq x h2
    have hup : upto qs (k + 1) = upto qs k ++ [x] := by rw [upto_succ qs k hkl, hx]
    have HUP := Lib.hid hup
    clear hx hup
    dsimp only [enArgs]
    simp only [List.zip_toArray, List.zip_cons_cons, List.zip_nil_left]
    gi_wp2
    refine ⟨(Frm.refl _ _).alloc _, ?_⟩
    intro W2 hf2
    have n1 : ¬ (V.heap.size = W.heap.size + 1) := by omega
    have hal : Frm V (V.alloc (.cells #[.int .i64 x.t, .int .u32 x.k, .int .u64 x.tok] 43)) (fun _ => False) := (Frm.refl _ _).alloc _
    have x0 := hf2.cell (show (V.alloc (.cells #[.int .i64 x.t, .int .u32 x.k, .int .u64 x.tok] 43)).cell? ⟨V.heap.size, 0, none⟩ = some (.int .i64 x.t) by rw [World.cell?_alloc_new]; rfl) n1
    have x1 := hf2.cell (show (V.alloc (.cells #[.int .i64 x.t, .int .u32 x.k, .int .u64 x.tok] 43)).cell? ⟨V.heap.size, 1, none⟩ = some (.int .u32 x.k) by rw [World.cell?_alloc_new]; rfl) n1
    have x2 := hf2.cell (show (V.alloc (.cells #[.int .i64 x.t, .int .u32 x.k, .int .u64 x.tok] 43)).cell? ⟨V.heap.size, 2, none⟩ = some (.int .u64 x.tok) by rw [World.cell?_alloc_new]; rfl) n1
    have d3 := hf2.cell (hal.cell c3 id) (show ¬ (w.heap.size = W.heap.size + 1) by omega)
    have d5 := hf2.cell (hal.cell c5 id) (show ¬ (w1.heap.size = W.heap.size + 1) by omega)
    have ho2 := (ho.new_ hal).frm hf2 (fun j hj h => by rw [blk_some] at hj; omega) (fun j hj _ h => by omega)
    have hF2 : Frm w W2 fun _ => False := (hF.then_ hal).trans hf2 (fun j hj h => by omega)
    have hV2 : V.heap.size < W2.heap.size := Nat.lt_of_lt_of_le (by simp) hf2.size
    obtain ⟨b, hb⟩ : ∃ b, hk nb x = b := ⟨_, rfl⟩
    have hbz : b < z := by rw [← hb, ← HZ.out]; exact hs_lt _ _ h2 h8
    have HASH := Lib.hid (fun V => hash_en x hxok nb h2 h8 V)
    rw [hb] at HASH
    have HB := Lib.hid hb
    rw [HZ.out] at d5 ho2
    obtain ⟨Ab, mb, cb, qb, hhb, hfb, hsb, hhd, hqb⟩ := ho2.at hbz
    rw [Nat.zero_add] at hhb hfb
    have HBV : ∀ k, blk Ab k → k < V.heap.size := fun k hk => by
      obtain ⟨h1, h3⟩ := List.getElem?_eq_some_iff.1 hhd
      have h4 := (ho.row b h1 (by rw [ho.lenq, ← ho.len]; exact h1)).ge (k := k) (by rw [h3]; exact hk)
      exact h4.2
    have hmbq : mb ≤ 4000 := by
      have h1 := (Rd.ens hsb.rd).1
      obtain ⟨h3, h4⟩ := List.getElem?_eq_some_iff.1 hqb
      rw [bks_at] at h4
      have h5 : qb.length ≤ (upto qs k).length := by rw [← h4]; exact List.length_filter_le _ _
      have h6 : (upto qs k).length ≤ qs.flatten.length := by unfold upto; rw [List.length_map, List.length_take, ← flat_snd, List.length_map]; exact Nat.min_le_right _ _
      omega
    have b0 : (0 : Int) ≤ (b : Int) := by omega
    have bz : (b : Int) < (z : Int) := by omega
    have HO := Lib.hid ho2
    have SB := Lib.hid hsb
    have HHD := Lib.hid hhd
    have HQB := Lib.hid hqb
    have F2 := Lib.hid hF2
    have HF := Lib.hid hf2
    have HAL := Lib.hid hal
    have HSV := Lib.hid hsV
    have HSW := Lib.hid hsW
    have HWW := Lib.hid hs1
    have HNE : Hid (w.heap.size + 1 ≠ w1.heap.size ∧ w.heap.size + 1 ≠ V.heap.size) := ⟨by omega, by omega⟩
    clear ho2 hsb hhd hqb hF2 hf2 hal c3 c5 ho hF hseq hFF hO hsl b3 b5 hFW hF0 hs1 hsW hsV hb n1
    gi_wp2_with (refine ⟨trivial, rfl, ?_⟩; gi_at_call 26; refine (callsIn_wide.2 (HASH.out _)).mono ?_; rintro e w' ⟨rfl, rfl⟩)
    have i43' := info_parts info43
    obtain ⟨i43, hj, hy0, hy1, hy2⟩ := i43'
    have HBV' := Lib.hid HBV
    have hmb : mb + 1 ≤ maxLen ∧ (mb + 1) * 24 ≤ 140737488355328 := by unfold maxLen; omega
    have hC0 : W.heap.size + 2 ≤ W2.heap.size := by have := HSV.out; omega
    have keep : ∀ (p : Addr) v, W2.cell? p = some v → (W2.alloc (.cells #[.int .i64 x.t, .int .u32 x.k, .int .u64 x.tok] 43)).drew.cell? p = some v := fun p v h => ((Frm.refl W2 fun _ => False).alloc _).drew.cell h id
    have KEEP := Lib.hid keep
    have hcw : w1.heap.size < W.heap.size + 2 := by have := HSW.out; omega
    have hcg : w.heap.size + 1 < W.heap.size + 2 := by have := HSW.out; have := HWW.out; omega
    clear HBV hmbq keep
    refine wpIn_region_round (S := fun U => U.cell? ⟨w1.heap.size, 0, none⟩ = some (.slice (some ⟨w.heap.size + 1, 0, none⟩) z z) ∧ U.cell? ⟨V.heap.size, 0, none⟩ = some (.int .i64 x.t) ∧ U.cell? ⟨V.heap.size, 1, none⟩ = some (.int .u32 x.k) ∧ U.cell? ⟨V.heap.size, 2, none⟩ = some (.int .u64 x.tok)) (by kernel_rfl) (fun _ _ h => h) (by kernel_rfl) ⟨d5, x0, x1, x2⟩ ?_
    intro hS
    refine wpAnyH_take (i := 0) (v := (.slice (some ⟨w.heap.size + 1, 0, none⟩) z z)) rfl (by kernel_rfl) (by kernel_rfl) (by kernel_rfl) (fun _ _ _ h => h) (Or.inl ⟨by rfl, ?_⟩) hS ?_
    · rintro U ⟨u5, u0, u1, u2⟩
      go_simp
    dsimp only [Act.put, Array.setIfInBounds]
    refine wpAnyH_take (i := 1) (v := (.int .i64 (b : Nat))) rfl (by kernel_rfl) (by kernel_rfl) (by kernel_rfl) (fun _ _ _ h => h) (Or.inl ⟨by rfl, ?_⟩) hS ?_
    · rintro U ⟨u5, u0, u1, u2⟩
      go_simp
    dsimp only [Act.put, Array.setIfInBounds]
    refine wpAnyH_take (i := 2) (v := (.slice (some ⟨w.heap.size + 1, 0, none⟩) z z)) rfl (by kernel_rfl) (by kernel_rfl) (by kernel_rfl) (fun _ _ _ h => h) (Or.inl ⟨by rfl, ?_⟩) hS ?_
    · rintro U ⟨u5, u0, u1, u2⟩
      go_simp
    dsimp only [Act.put, Array.setIfInBounds]
    refine wpAnyH_take (i := 3) (v := (.int .i64 (b : Nat))) rfl (by kernel_rfl) (by kernel_rfl) (by kernel_rfl) (fun _ _ _ h => h) (Or.inl ⟨by rfl, ?_⟩) hS ?_
    · rintro U ⟨u5, u0, u1, u2⟩
      go_simp
    dsimp only [Act.put, Array.setIfInBounds]
    refine wpAnyH_take (i := 4) (v := (.pointer (some ⟨w.heap.size + 1, b, none⟩))) rfl (by kernel_rfl) (by kernel_rfl) (by kernel_rfl) (fun _ _ _ h => h) (Or.inl ⟨by rfl, ?_⟩) hS ?_
    · rintro U ⟨u5, u0, u1, u2⟩
      go_simp
    dsimp only [Act.put, Array.setIfInBounds]
    refine wpAnyH_take (i := 6) (v := x.val) rfl (by kernel_rfl) (by kernel_rfl) (by kernel_rfl) (fun _ _ _ h => h) (Or.inl ⟨by rfl, ?_⟩) hS ?_
    · rintro U ⟨u5, u0, u1, u2⟩
      go_simp
    dsimp only [Act.put, Array.setIfInBounds]
    refine wpAnyH_ready (rs := [5, 7]) (by kernel_rfl) (by simp) ?_
    refine AllReadyH.cons rfl (fun K hK => ?_) (AllReadyH.cons rfl (fun K hK => ?_) AllReadyH.nil)
    · go_simp
      refine hK.out _ _ hS ?_
      intro hS
      refine wpAnyH_ready (rs := [7]) (by kernel_rfl) (by simp) ?_
      refine AllReadyH.cons rfl (fun K hK => ?_) AllReadyH.nil
      go_simp
      refine hK.out _ _ ⟨KEEP.out _ _ d5, KEEP.out _ _ x0, KEEP.out _ _ x1, KEEP.out _ _ x2⟩ ?_
      intro hS
      refine wpAnyH_ready (rs := [8]) (by kernel_rfl) (by simp) ?_
      refine AllReadyH.cons rfl (fun K hK => ?_) AllReadyH.nil
      refine step_append_sl _ rfl (.tmp 29) (.tmp 31) 22 rfl (W.heap.size + 2) 43 i43 _ 3 24 Try.underlying22 hj hy0 hy1 hy2 rfl (by decide) _ _ _ _ rfl (SB.out.alloc _).drew _ 1 1 x.V rfl (Rd.drew (Rd.fresh W2 43 #[.int .i64 x.t, .int .u32 x.k, .int .u64 x.tok] rfl)) x.one hmb.1 hmb.2 (Nat.le_trans hC0 (by simp)) ?_
      intro A' cap' w3 hap
      have nb5 : ¬ blk Ab w1.heap.size := fun h => by have := (SB.out.ge h).1; omega
      have nbv : ¬ blk Ab V.heap.size := fun h => by have := HBV'.out _ h; omega
      have nbg : ¬ blk Ab (w.heap.size + 1) := fun h => by have := (SB.out.ge h).1; omega
      have e5 := hap.2.1.cell (KEEP.out _ _ d5) nb5
      have y0 := hap.2.1.cell (KEEP.out _ _ x0) nbv
      have y1 := hap.2.1.cell (KEEP.out _ _ x1) nbv
      have y2 := hap.2.1.cell (KEEP.out _ _ x2) nbv
      have hh3 := hap.2.1.cell (KEEP.out _ _ hhb) nbg
      have hglt := World.block_lt_of_cell? W2 _ hhb
      simp only at hglt
      have hf3 := (hap.2.1.frozen (p := ⟨w.heap.size + 1, b, none⟩) (by simp; omega) nbg).trans (((Frm.refl W2 fun _ => False).alloc (.cells #[.int .i64 x.t, .int .u32 x.k, .int .u64 x.tok] 43)).drew.frozen (p := ⟨w.heap.size + 1, b, none⟩) hglt id |>.trans hfb)
      have HAP := Lib.hid hap
      clear hap nb5 nbv nbg hglt
      refine hK.out _ _ ⟨e5, y0, y1, y2⟩ ?_
      intro hS
      dsimp only [Act.put, Array.setIfInBounds]
      refine wpAnyH_take (i := 9) (v := (.pointer (some ⟨w.heap.size + 1, b, none⟩))) rfl (by kernel_rfl) (by kernel_rfl) (by kernel_rfl) (fun _ _ _ h => h) (Or.inl ⟨by rfl, ?_⟩) hS ?_
      · rintro U ⟨u5, u0, u1, u2⟩
        go_simp
      dsimp only [Act.put, Array.setIfInBounds]
      refine wpAnyH_ready (rs := [10]) (by kernel_rfl) (by simp) ?_
      refine AllReadyH.cons rfl (fun K hK => ?_) AllReadyH.nil
      go_simp
      refine hK.out _ _ ?_ ?_
      · simp [e5, y0, y1, y2, World.cell?_setCell_far, HNE.out]
      intro _
      refine wpAnyH_done (by kernel_rfl) ?_ _
      have FA : Frm W2 w3 (blk Ab) := (((Frm.refl W2 (blk Ab)).alloc _).drew).then_ HAP.out.2.1
      have FT : Frm W2 (w3.setCell ⟨w.heap.size + 1, b, none⟩ (.slice A' (mb + 1) cap')) (fun j => j = w.heap.size + 1 ∨ W.heap.size + 2 ≤ j) := (FA.mono fun j _ hj => .inr (SB.out.ge hj).1).setCell (p := ⟨w.heap.size + 1, b, none⟩) (fun _ => .inl rfl) _
      have hb1 : b < hv.length := by rw [HO.out.len]; exact hbz
      have hvb : hv[b] = ⟨Ab, mb, cb⟩ := (List.getElem?_eq_some_iff.1 HHD.out).2
      have hqb' : bk nb b (upto qs k) = qb := by
        obtain ⟨q1, q2⟩ := List.getElem?_eq_some_iff.1 HQB.out
        rw [bks_at] at q2
        exact q2
      have hput := HO.out.put (i := b) hb1 (A' := A') (n' := mb + 1) (c' := cap') (q := qb ++ [x]) (w2 := w3) (by rw [ens_snoc]; exact HAP.out.1) (by rw [hvb]; exact FA) (by rw [hvb]; intro j hj; exact (HAP.out.2.2 j hj).imp id (fun h => Nat.le_trans (by simp) h))
      rw [Nat.zero_add] at hput
      refine ⟨FT, FT.cell d3 (show ¬ (w.heap.size = w.heap.size + 1 ∨ W.heap.size + 2 ≤ w.heap.size) by omega), ?_, ⟨hv.set b ⟨A', mb + 1, cap'⟩, ?_⟩, F2.out.fresh FT (fun j hj => hj.elim (fun h => by omega) (fun h => by omega))⟩
      · rw [HZ.out]
        exact FT.cell d5 (show ¬ (w1.heap.size = w.heap.size + 1 ∨ W.heap.size + 2 ≤ w1.heap.size) by have := HNE.out.1; omega)
      · rw [HZ.out, HUP.out, bks_snoc, HB.out, hqb']
        exact hput
    · go_simp
      refine hK.out _ _ ⟨KEEP.out _ _ d5, KEEP.out _ _ x0, KEEP.out _ _ x1, KEEP.out _ _ x2⟩ ?_
      intro hS
      have hh2 := KEEP.out _ _ hhb
      refine wpAnyH_ready (rs := [5]) (by kernel_rfl) (by simp) ?_
      refine AllReadyH.cons rfl (fun K hK => ?_) AllReadyH.nil
      go_simp
      refine hK.out _ _ hS ?_
      clear hh2
      intro hS
      refine wpAnyH_ready (rs := [8]) (by kernel_rfl) (by simp) ?_
      refine AllReadyH.cons rfl (fun K hK => ?_) AllReadyH.nil
      refine step_append_sl _ rfl (.tmp 29) (.tmp 31) 22 rfl (W.heap.size + 2) 43 i43 _ 3 24 Try.underlying22 hj hy0 hy1 hy2 rfl (by decide) _ _ _ _ rfl (SB.out.alloc _).drew _ 1 1 x.V rfl (Rd.drew (Rd.fresh W2 43 #[.int .i64 x.t, .int .u32 x.k, .int .u64 x.tok] rfl)) x.one hmb.1 hmb.2 (Nat.le_trans hC0 (by simp)) ?_
      intro A' cap' w3 hap
      have nb5 : ¬ blk Ab w1.heap.size := fun h => by have := (SB.out.ge h).1; omega
      have nbv : ¬ blk Ab V.heap.size := fun h => by have := HBV'.out _ h; omega
      have nbg : ¬ blk Ab (w.heap.size + 1) := fun h => by have := (SB.out.ge h).1; omega
      have e5 := hap.2.1.cell (KEEP.out _ _ d5) nb5
      have y0 := hap.2.1.cell (KEEP.out _ _ x0) nbv
      have y1 := hap.2.1.cell (KEEP.out _ _ x1) nbv
      have y2 := hap.2.1.cell (KEEP.out _ _ x2) nbv
      have hh3 := hap.2.1.cell (KEEP.out _ _ hhb) nbg
      have hglt := World.block_lt_of_cell? W2 _ hhb
      simp only at hglt
      have hf3 := (hap.2.1.frozen (p := ⟨w.heap.size + 1, b, none⟩) (by simp; omega) nbg).trans (((Frm.refl W2 fun _ => False).alloc (.cells #[.int .i64 x.t, .int .u32 x.k, .int .u64 x.tok] 43)).drew.frozen (p := ⟨w.heap.size + 1, b, none⟩) hglt id |>.trans hfb)
      have HAP := Lib.hid hap
      clear hap nb5 nbv nbg hglt
      refine hK.out _ _ ⟨e5, y0, y1, y2⟩ ?_
      intro hS
      dsimp only [Act.put, Array.setIfInBounds]
      refine wpAnyH_take (i := 9) (v := (.pointer (some ⟨w.heap.size + 1, b, none⟩))) rfl (by kernel_rfl) (by kernel_rfl) (by kernel_rfl) (fun _ _ _ h => h) (Or.inl ⟨by rfl, ?_⟩) hS ?_
      · rintro U ⟨u5, u0, u1, u2⟩
        go_simp
      dsimp only [Act.put, Array.setIfInBounds]
      refine wpAnyH_ready (rs := [10]) (by kernel_rfl) (by simp) ?_
      refine AllReadyH.cons rfl (fun K hK => ?_) AllReadyH.nil
      go_simp
      refine hK.out _ _ ?_ ?_
      · simp [e5, y0, y1, y2, World.cell?_setCell_far, HNE.out]
      intro _
      refine wpAnyH_done (by kernel_rfl) ?_ _
      have FA : Frm W2 w3 (blk Ab) := (((Frm.refl W2 (blk Ab)).alloc _).drew).then_ HAP.out.2.1
      have FT : Frm W2 (w3.setCell ⟨w.heap.size + 1, b, none⟩ (.slice A' (mb + 1) cap')) (fun j => j = w.heap.size + 1 ∨ W.heap.size + 2 ≤ j) := (FA.mono fun j _ hj => .inr (SB.out.ge hj).1).setCell (p := ⟨w.heap.size + 1, b, none⟩) (fun _ => .inl rfl) _
      have hb1 : b < hv.length := by rw [HO.out.len]; exact hbz
      have hvb : hv[b] = ⟨Ab, mb, cb⟩ := (List.getElem?_eq_some_iff.1 HHD.out).2
      have hqb' : bk nb b (upto qs k) = qb := by
        obtain ⟨q1, q2⟩ := List.getElem?_eq_some_iff.1 HQB.out
        rw [bks_at] at q2
        exact q2
      have hput := HO.out.put (i := b) hb1 (A' := A') (n' := mb + 1) (c' := cap') (q := qb ++ [x]) (w2 := w3) (by rw [ens_snoc]; exact HAP.out.1) (by rw [hvb]; exact FA) (by rw [hvb]; intro j hj; exact (HAP.out.2.2 j hj).imp id (fun h => Nat.le_trans (by simp) h))
      rw [Nat.zero_add] at hput
      refine ⟨FT, FT.cell d3 (show ¬ (w.heap.size = w.heap.size + 1 ∨ W.heap.size + 2 ≤ w.heap.size) by omega), ?_, ⟨hv.set b ⟨A', mb + 1, cap'⟩, ?_⟩, F2.out.fresh FT (fun j hj => hj.elim (fun h => by omega) (fun h => by omega))⟩
      · rw [HZ.out]
        exact FT.cell d5 (show ¬ (w1.heap.size = w.heap.size + 1 ∨ W.heap.size + 2 ≤ w1.heap.size) by have := HNE.out.1; omega)
      · rw [HZ.out, HUP.out, bks_snoc, HB.out, hqb']
        exact hput
  case done =>
    intro V hI hD
    obtain ⟨c3, c5, ⟨hv, ho⟩, hF⟩ := hI
    rw [HZ.out] at c5 ho
    rw [upto_all] at ho
    have ho' : OwD V (w.heap.size + 1) (W.heap.size + 2) (some ⟨w.heap.size + 1, 0, none⟩) z z hv (rehash nb qs) := ho
    have HSW := Lib.hid hsW
    have HWW := Lib.hid hs1
    clear ho c3 hseq hFF hO hsl b3 b5 hFW hF0 hs1 hsW
    go_wp2_with fail
    go_loopw [36] (fun i wr => ∃ (k : Nat) (hv : List Hd), i = .int .i64 k ∧ k ≤ z ∧ OwD wr (w.heap.size + 1) (W.heap.size + 2) (some ⟨w.heap.size + 1, 0, none⟩) z z hv (rehash nb qs) ∧ (∀ j (hj : j < hv.length), j < k → hv[j].n = hv[j].c) ∧ wr.cell? ⟨w1.heap.size, 0, none⟩ = some (.slice (some ⟨w.heap.size + 1, 0, none⟩) z z) ∧ (Frm w wr fun _ => False) ∧ wr.heap[W.heap.size]? = some (.deferred (some []))) (fun i _ => z - (intOf i).toNat)
    case atStart => exact ⟨0, hv, rfl, Nat.zero_le _, ho', (fun j hj h => absurd h (by omega)), c5, hF, hD⟩
    case round =>
      obtain ⟨k, hv, rfl, hk, ho, hcl, c5, hF, hD⟩ := hrel
      by_cases hlt : k < z
      · obtain ⟨Ak, mk, ck, qk, hh, hf, hs', hhd, hq⟩ := ho.at hlt
        rw [Nat.zero_add] at hh hf
        have hle := hs'.le
        have HO := Lib.hid ho
        have SK := Lib.hid hs'
        have HHD := Lib.hid hhd
        have HQ := Lib.hid hq
        have HCL := Lib.hid hcl
        have HF := Lib.hid hF
        have HD := Lib.hid hD
        have k0 : (0 : Int) ≤ (k : Int) := by omega
        have k1 : (k : Int) < (z : Int) := by omega
        have hgw : w.heap.size + 1 ≠ w1.heap.size := by have := HWW.out; omega
        clear ho hs' hhd hq hcl hF hD ho'
        go_wp2_with fail
        refine wp_onlyN ?_
        refine wp_region_held_drew (S := fun U => U.cell? ⟨w1.heap.size, 0, none⟩ = some (.slice (some ⟨w.heap.size + 1, 0, none⟩) z z)) (by kernel_rfl) c5 ?_
        intro hS
        refine wpAnyH_take (i := 0) (v := (.slice (some ⟨w.heap.size + 1, 0, none⟩) z z)) rfl (by kernel_rfl) (by kernel_rfl) (by kernel_rfl) (fun _ _ _ h => h) (Or.inl ⟨by rfl, ?_⟩) hS ?_
        · intro U u5
          go_simp
        dsimp only [Act.put, Array.setIfInBounds]
        refine wpAnyH_take (i := 1) (v := (.int .i64 (k : Nat))) rfl (by kernel_rfl) (by kernel_rfl) (by kernel_rfl) (fun _ _ _ h => h) (Or.inl ⟨by rfl, ?_⟩) hS ?_
        · intro U u5
          go_simp
        dsimp only [Act.put, Array.setIfInBounds]
        refine wpAnyH_take (i := 2) (v := (.slice (some ⟨w.heap.size + 1, 0, none⟩) z z)) rfl (by kernel_rfl) (by kernel_rfl) (by kernel_rfl) (fun _ _ _ h => h) (Or.inl ⟨by rfl, ?_⟩) hS ?_
        · intro U u5
          go_simp
        dsimp only [Act.put, Array.setIfInBounds]
        refine wpAnyH_take (i := 3) (v := (.int .i64 (k : Nat))) rfl (by kernel_rfl) (by kernel_rfl) (by kernel_rfl) (fun _ _ _ h => h) (Or.inl ⟨by rfl, ?_⟩) hS ?_
        · intro U u5
          go_simp
        dsimp only [Act.put, Array.setIfInBounds]
        refine wpAnyH_take (i := 4) (v := (.pointer (some ⟨w.heap.size + 1, k, none⟩))) rfl (by kernel_rfl) (by kernel_rfl) (by kernel_rfl) (fun _ _ _ h => h) (Or.inl ⟨by rfl, ?_⟩) hS ?_
        · intro U u5
          go_simp
        dsimp only [Act.put, Array.setIfInBounds]
        refine wpAnyH_ready (rs := [5]) (by kernel_rfl) (by simp) ?_
        refine AllReadyH.cons rfl (fun K hK => ?_) AllReadyH.nil
        go_simp
        refine hK.out _ _ hS ?_
        intro hS
        refine wpAnyH_ready (rs := [6]) (by kernel_rfl) (by simp) ?_
        refine AllReadyH.cons rfl (fun K hK => ?_) AllReadyH.nil
        go_simp
        refine (clip_any Ak mk ck hle _).mono ?_
        rintro e w' ⟨rfl, rfl⟩
        refine hK.out _ _ hS ?_
        intro hS
        refine wpAnyH_take (i := 7) (v := (.pointer (some ⟨w.heap.size + 1, k, none⟩))) rfl (by kernel_rfl) (by kernel_rfl) (by kernel_rfl) (fun _ _ _ h => h) (Or.inl ⟨by rfl, ?_⟩) hS ?_
        · intro U u5
          go_simp
        dsimp only [Act.put, Array.setIfInBounds]
        refine wpAnyH_ready (rs := [8]) (by kernel_rfl) (by simp) ?_
        refine AllReadyH.cons rfl (fun K hK => ?_) AllReadyH.nil
        go_simp
        refine hK.out _ _ ?_ ?_
        · simp [c5, World.cell?_setCell_far, hgw]
        intro _
        refine wpAnyH_done (by kernel_rfl) ?_ _
        have hkv : k < hv.length := by rw [HO.out.len]; exact hlt
        have hvk : hv[k] = ⟨Ak, mk, ck⟩ := (List.getElem?_eq_some_iff.1 HHD.out).2
        have hput := HO.out.put (i := k) hkv (A' := Ak) (n' := mk) (c' := mk) (q := qk) (w2 := wr) (SK.out.clip (Nat.le_refl _) hle) (Frm.refl _ _) (fun j hj => .inl (by rw [hvk]; exact hj))
        have hset : Frm wr (wr.setCell ⟨w.heap.size + 1, k, none⟩ (.slice Ak mk mk)).drew (fun j => j = w.heap.size + 1) := ((Frm.refl wr (fun j => j = w.heap.size + 1)).setCell (p := ⟨w.heap.size + 1, k, none⟩) (fun _ => rfl) _).drew
        have hqs : (rehash nb qs).set k qk = rehash nb qs := by
          obtain ⟨q1, q2⟩ := List.getElem?_eq_some_iff.1 HQ.out
          rw [← q2, List.set_getElem_self]
        rw [Nat.zero_add, hqs] at hput
        have HP := Lib.hid (hput.new_ (Frm.refl _ _).drew)
        have HSET := Lib.hid hset
        have HKV := Lib.hid hkv
        clear hput hset hqs hvk hkv
        show Exit.inBlock 3 _ .normal _ _
        go_wp2_with fail
        go_roundw
        case rel =>
          refine ⟨k + 1, hv.set k ⟨Ak, mk, mk⟩, by go_num, by omega, HP.out, ?_, HSET.out.cell c5 (Ne.symm hgw), HF.out.trans HSET.out (fun j hj h => by omega), (HSET.out.block _ (Array.getElem?_eq_some_iff.1 HD.out).1 (by have := HSW.out; have := HWW.out; omega)).trans HD.out⟩
          intro j hj hjk
          have hj' : j < hv.length := by simpa using hj
          rw [List.getElem_set]
          split
          · rfl
          · exact HCL.out j hj' (by omega)
        case measure => simp [intOf]; omega
      · obtain rfl : k = z := by omega
        go_wp2_with fail
        have hput := putObj_frm wr W.heap.size (.deferred none)
        refine ⟨by simp, .inl ⟨_, _, rfl, run_takeDeferred hD, ?_⟩⟩
        refine ⟨.slice (some ⟨w.heap.size + 1, 0, none⟩) k k, by simp [results, Try.results15, go_sem], w.heap.size + 1, hv, rfl, ?_, ?_, hF.trans hput (fun j hj h => by have := HSW.out; have := HWW.out; omega)⟩
        · exact (ho.frm hput (fun j hj h => by rw [blk_some] at hj; have := HSW.out; have := HWW.out; omega) (fun j hj _ h => by omega)).mono (by omega) (by have := HSW.out; have := HWW.out; omega)
        · intro h hh
          obtain ⟨j, hj, rfl⟩ := List.mem_iff_getElem.1 hh
          exact hcl j hj (by have := ho.len; omega)
  case stop =>
    intro c k W _ h _
    exact h.elim
end Go.Proofs.Ytajcijocjbakbaa
