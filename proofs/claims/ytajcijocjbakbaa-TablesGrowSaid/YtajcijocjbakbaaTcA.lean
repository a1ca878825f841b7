import Derived.Test.YtajcijocjbakbaaTbY
import Derived.Test.YtajcijocjbakbaaTbZ
import Derived.Deep.CutBlock
namespace Go.Proofs.Ytajcijocjbakbaa
open Go.RowKit

/-! ### the law Grow -/
/-- A slice of slices that lies between blocks a and b. -/
structure Mid (w : World) (a b : Nat) (A : Option Addr) (n : Nat) (hs : List Hd) (qs : List (List En)) : Prop where
  rd : RdD w w.heap.size A n hs qs
  A_ : ∀ k, blk A k → a ≤ k ∧ k < b
  r_ : ∀ h ∈ hs, ∀ k, blk h.A k → a ≤ k ∧ k < b
theorem OwD.mid {w : World} {a n c : Nat} {A : Option Addr} {hs : List Hd} {qs : List (List En)} (h : OwD w a a A n c hs qs) : Mid w a w.heap.size A n hs qs :=
  ⟨h.rd, fun k hk => h.out.ge hk, fun d hd k hk => by
    obtain ⟨i, hi, rfl⟩ := List.mem_iff_getElem.1 hd
    exact (h.row i hi (by rw [h.lenq, ← h.len]; exact hi)).ge hk⟩
theorem Mid.frm {w w' : World} {a b n : Nat} {A : Option Addr} {hs : List Hd} {qs : List (List En)} {S : Nat → Prop} (h : Mid w a b A n hs qs) (hf : Frm w w' S) (hS : ∀ k, a ≤ k → k < b → ¬ S k) : Mid w' a b A n hs qs :=
  ⟨⟨h.rd.out.frm hf fun j hj => hS j (h.A_ j hj).1 (h.A_ j hj).2, h.rd.len, h.rd.lenq, fun i hi hq => (h.rd.row i hi hq).frm hf fun j hj => hS j (h.r_ _ (List.getElem_mem hi) j hj).1 (h.r_ _ (List.getElem_mem hi) j hj).2⟩, h.A_, h.r_⟩
theorem Mid.new_ {w w' : World} {a b n : Nat} {A : Option Addr} {hs : List Hd} {qs : List (List En)} (h : Mid w a b A n hs qs) (hf : Frm w w' fun _ => False) : Mid w' a b A n hs qs := h.frm hf fun _ _ _ => id
set_option maxRecDepth 100000 in
theorem grow_long (A X : Option Addr) (n c m cx : Nat) (now : Int) (w : World) (hn : 60 < n) :
    Calls Try.prog 3 #[.slice A n c, .slice X m cx, .int .u64 now] w fun e w' => e = .returned (.bool true) ∧ Frm w w' fun _ => False := by
  have h1 : (60 : Int) < (n : Int) := by omega
  have h2 : decide ((60 : Int) < (n : Int)) = true := by rw [decide_eq_true_eq]; exact h1
  go_enter Try.func3, Try.ntmps3
  go_wp2_with (go_at_call 7; refine (lives_any _).mono ?_; rintro _ w' ⟨rfl, hf⟩; have HL2 := Lib.hid hf; clear hf)
  go_ret
  exact ⟨rfl, HL2.out⟩
set_option maxRecDepth 100000 in
theorem grow_long2 (A X : Option Addr) (n c m cx : Nat) (now : Int) (w : World) (hn : n ≤ 60) (hm : 10 < m) :
    Calls Try.prog 3 #[.slice A n c, .slice X m cx, .int .u64 now] w fun e w' => e = .returned (.bool true) ∧ Frm w w' fun _ => False := by
  have h1 : ¬ (60 : Int) < (n : Int) := by omega
  have h2 : decide ((60 : Int) < (n : Int)) = false := by rw [decide_eq_false_iff_not]; exact h1
  have h3 : (10 : Int) < (m : Int) := by omega
  have h4 : decide ((10 : Int) < (m : Int)) = true := by rw [decide_eq_true_eq]; exact h3
  go_enter Try.func3, Try.ntmps3
  go_wp2_with (go_at_call 7; refine (lives_any _).mono ?_; rintro _ w' ⟨rfl, hf⟩; have HL2 := Lib.hid hf; clear hf)
  go_ret
  exact ⟨rfl, HL2.out⟩
theorem neq43 (t k z : Int) (w : World) : (binOp .neq 43 (.agg #[.int .i64 t, .int .u32 k, .int .u64 z]) (.agg #[.int .i64 t, .int .u32 k, .int .u64 z])).run Try.prog w = .ok (.bool false) w := by
  rw [run_neq_struct, run_equalIn_agg _ 9999 43 _ _ (by kernel_rfl) (by kernel_rfl)]
  simp [Program.fieldsOf, Try.underlying43, Op.eqFields, go_sem]
theorem eqg43 (op : BinOp) (x y : Operand) (a b : Array Value) (w : World) : (eqGuard op 43 x y (.agg a) (.agg b)).run Try.prog w = .ok () w :=
  run_eqGuard_agg w op 43 x y _ _ (by kernel_rfl)
theorem rehash_bks (nb : Nat) (h2 : 2 ≤ nb) (h8 : nb ≤ 8) (l : List En) : rehash nb (bks 2 l) = bks nb l := by
  unfold rehash
  apply List.ext_getElem?
  intro i
  by_cases hi : i < 2 ^ nb
  · rw [bks_get nb _ i hi, bks_get nb _ i hi, bk_again 2 nb i h2 h8 hi]
  · rw [List.getElem?_eq_none (by rw [bks_len]; omega), List.getElem?_eq_none (by rw [bks_len]; omega)]
theorem countP_take (l : List En) (p : En → Bool) (j : Nat) (x : En) (h : l[j]? = some x) : (l.take (j + 1)).countP p = (l.take j).countP p + if p x then 1 else 0 := by
  rw [List.take_add_one, h, List.countP_append]
  cases hp : p x <;> simp [hp]
set_option maxRecDepth 100000 in
set_option maxHeartbeats 4000000 in
theorem grow_walk (A X : Option Addr) (n c m cx : Nat) (now : Int) (l : List En) (zs : List Int) (w : World) (hr : Rd w w.heap.size 3 A n (ens l)) (hok : ∀ x ∈ l, EnOk x) (hn : n ≤ 60) (hx : Rd w w.heap.size 1 X m (zs.map (Value.int .u8))) (hz : ∀ z ∈ zs, 0 ≤ z ∧ z ≤ 255) (hm : m ≤ 10) :
    Calls Try.prog 3 #[.slice A n c, .slice X m cx, .int .u64 now] w fun e w' => e = .returned (.bool true) ∧ Frm w w' fun _ => False := by
  have h1 : ¬ (60 : Int) < (n : Int) := by omega
  have h2 : decide ((60 : Int) < (n : Int)) = false := by rw [decide_eq_false_iff_not]; exact h1
  have h3 : ¬ (10 : Int) < (m : Int) := by omega
  have h4 : decide ((10 : Int) < (m : Int)) = false := by rw [decide_eq_false_iff_not]; exact h3
  have HR := Lib.hid hr
  have HOK := Lib.hid hok
  have HX := Lib.hid hx
  have HZ := Lib.hid hz
  have hnl := (Rd.ens hr).1
  have HNL := Lib.hid hnl
  have hmz : m = zs.length := by have := hx.1; simp at this; omega
  have HMZ := Lib.hid hmz
  clear hr hok hx hz hnl hmz
  go_enter Try.func3, Try.ntmps3
  go_wp2_with fail
  refine (placed_any A n c l w HR.out hn HOK.out).mono ?_
  rintro _ w1 ⟨s, rfl, hV, hf⟩
  have V1 := Lib.hid hV
  have F1 := Lib.hid hf
  clear hV hf
  go_wp2_with fail
  refine (queues_any s _ 2 _ _ _ (by omega) (by omega) V1.out ((vpl_GI l).few.few (by have := HNL.out; omega))).mono ?_
  rw [(vpl_GI l).qs, show 2 ^ 2 = 4 from rfl]
  rintro _ w2 ⟨A8, c8, hs8, rfl, hO, hf⟩
  have M2 := Lib.hid hO.mid
  obtain ⟨a8, ha8⟩ : ∃ x, w1.heap.size = x := ⟨_, rfl⟩
  obtain ⟨b8, hb8⟩ : ∃ x, w2.heap.size = x := ⟨_, rfl⟩
  have hs12 := hf.size
  have V2 := Lib.hid ((V1.out.sub (O' := fun j => w.heap.size ≤ j ∧ j < a8) (fun j h1 h2 _ => ⟨h1, by omega⟩)).new_ hf)
  have F2 := Lib.hid (F1.out.then_ hf)
  rw [ha8, hb8] at M2
  have V3 := Lib.hid (V2.out.sub (O' := fun j => w.heap.size ≤ j ∧ (j < a8 ∨ b8 ≤ j)) (fun j h1 h2 h3 => ⟨h3.1, .inl h3.2⟩))
  have hw1 := F1.out.size
  clear hO hf V1 F1 V2
  go_upto_block 0 with fail
  go_cut [9, 10, 11] from 34 to 94 (fun s9 s10 s11 wx => ∃ (nb : Nat) (v : List Vt) (tm : Int), s9 = .int .i64 nb ∧ SetV wx w.heap.size s (fun j => w.heap.size ≤ j ∧ (j < a8 ∨ b8 ≤ j)) v ∧ GI v nb tm l ∧ Mid wx a8 b8 A8 4 hs8 (bks 2 l) ∧ b8 ≤ wx.heap.size ∧ Frm w wx fun _ => False)
  case first =>
    go_wp2_with fail
    go_loopw [9, 10] (fun o i wr => ∃ (k nb : Nat) (v : List Vt) (tm : Int), i = .int .i64 k ∧ k ≤ m ∧ o = .int .i64 nb ∧ SetV wr w.heap.size s (fun j => w.heap.size ≤ j ∧ (j < a8 ∨ b8 ≤ j)) v ∧ GI v nb tm l ∧ Mid wr a8 b8 A8 4 hs8 (bks 2 l) ∧ b8 ≤ wr.heap.size ∧ Frm w wr fun _ => False) (fun _ i _ => m - (intOf i).toNat)
    case atStart => exact ⟨0, 2, vpl l, 0, rfl, Nat.zero_le _, rfl, V3.out, vpl_GI l, M2.out, by omega, F2.out⟩
    case round =>
      obtain ⟨k, nb, v, tm, rfl, hkm, rfl, hV, hG, hM, hbw, hF⟩ := hrel
      have V := Lib.hid hV
      have G := Lib.hid hG
      have M := Lib.hid hM
      have F := Lib.hid hF
      clear hV hG hM hF
      have nb2 := G.out.h2
      have nb8 := G.out.h8
      by_cases hlk : k < m
      · have k0 : (0 : Int) ≤ (k : Int) := by omega
        have k1 : (k : Int) < (m : Int) := by omega
        by_cases hn8 : nb < 8
        · have e8 : (nb : Int) < 8 := by omega
          have hkz : k < zs.length := by have := HMZ.out; omega
          obtain ⟨zv, hzv⟩ : ∃ z, zs[k] = z := ⟨_, rfl⟩
          have hzk : zs[k]? = some zv := by rw [List.getElem?_eq_getElem hkz, hzv]
          obtain ⟨z0, z255⟩ := HZ.out zv (List.mem_of_getElem? hzk)
          obtain ⟨zn, rfl⟩ := Int.eq_ofNat_of_zero_le z0
          obtain ⟨gx, ox, rfl, -, hcx⟩ := (HX.out.new_ F.out).2 (by rw [List.length_map]; omega)
          have px := hcx k (.int .u8 zn) (by rw [List.getElem?_map, hzk]; rfl)
          clear hcx hzv hzk hkz
          go_wp2_with fail
          · obtain ⟨mt, hmt⟩ : ∃ x : Nat, x = 8 := ⟨_, rfl⟩
            have hmtI : (8 : Int) = (mt : Int) := by omega
            rw [hmtI]
            have hmt1 : nb < mt := by omega
            have hmt8 : mt ≤ 8 := by omega
            clear hmtI hmt
            have HG := Lib.hid (G.out.grow mt hmt1 hmt8 now)
            have HH := Lib.hid (G.out.hasGrow mt hmt1 hmt8 now)
            have hfew : VFew v := G.out.few.few (by have := HNL.out; omega)
            have hfew2 : VFew (vgrow v nb mt now) := HG.out.2.1.few.few (by have := HNL.out; omega)
            have HFE := Lib.hid (And.intro hfew hfew2)
            obtain ⟨z, hz⟩ : ∃ z, 2 ^ mt = z := ⟨_, rfl⟩
            have hz4 : 4 ≤ z := by rw [← hz]; exact Nat.pow_le_pow_right (n := 2) (by decide) (show 2 ≤ mt by omega)
            have hz256 : z ≤ 256 := by rw [← hz]; exact Nat.pow_le_pow_right (n := 2) (by decide) hmt8
            have HSZ := Lib.hid (fun V => show Calls Try.prog 13 #[.int .i64 (mt : Nat)] V fun e w' => e = .returned (.int .i64 (z : Nat)) ∧ V = w' by rw [← hz, ← sz_pow mt (by omega) hmt8]; exact size_any _ _)
            have hz1 : (z : Int) - 1 = ((z - 1 : Nat) : Int) := by omega
            have HZP := Lib.hid hz
            have e33 : ∀ V, (binOp .neq 33 (tmV now now) (tmV now now)).run Try.prog V = .ok (.bool false) V := fun V => by rw [neq33]; simp
            have eg33 := eqg33
            clear hfew hfew2 hz
            refine (has_v V.out (mt : Nat)).mono ?_
            rw [HH.out.1]
            rintro _ _ ⟨rfl, rfl⟩
            go_wp2_with fail
            refine (grow_v V.out HFE.out.1 nb (mt : Nat) now).mono ?_
            rw [HG.out.1]
            rintro _ w4 ⟨rfl, hV, hf⟩
            have V4 := Lib.hid (hV.sub (O' := fun j => w.heap.size ≤ j ∧ (j < a8 ∨ b8 ≤ j)) (fun j h1 _ h3 => h3.elim id fun h => ⟨h1, .inr (by omega)⟩))
            have M4 := Lib.hid (M.out.frm hf fun j h1 h2 h3 => by omega)
            have F4 := Lib.hid (F.out.fresh hf fun j hj => hj.1)
            have hbw4 : b8 ≤ w4.heap.size := Nat.le_trans hbw hf.size
            clear hV hf
            go_wp2_with fail
            refine (has_v V4.out nb).mono ?_
            rw [HH.out.2]
            rintro _ _ ⟨rfl, rfl⟩
            go_wp2_with fail
            refine (has_v V4.out (mt : Nat)).mono ?_
            rw [HG.out.2.1.has]
            rintro _ _ ⟨rfl, rfl⟩
            go_wp2_with fail
            refine (grow_v V4.out HFE.out.2 nb (mt : Nat) now).mono ?_
            rw [HG.out.2.2]
            rintro _ w5 ⟨rfl, hV, hf⟩
            rw [show vgrow (vgrow v nb (mt : Nat) now) nb (mt : Nat) now = vgrow v nb (mt : Nat) now from if_neg (by rw [HG.out.2.2]; decide)] at hV
            have V5 := Lib.hid (hV.sub (O' := fun j => w.heap.size ≤ j ∧ (j < a8 ∨ b8 ≤ j)) (fun j h1 _ h3 => h3.elim id fun h => ⟨h1, .inr (by omega)⟩))
            have M5 := Lib.hid (M4.out.frm hf fun j h1 h2 h3 => by omega)
            have F5 := Lib.hid (F4.out.fresh hf fun j hj => hj.1)
            have hbw5 : b8 ≤ w5.heap.size := Nat.le_trans hbw4 hf.size
            clear hV hf V4 M4 F4
            go_wp2_with fail
            refine (HSZ.out _).mono ?_
            rintro _ _ ⟨rfl, rfl⟩
            go_wp2_with fail
            try rw [hz1]
            refine (timer_v V5.out (mt : Nat) (z - 1 : Nat)).mono ?_
            rw [HG.out.2.1.tm (z - 1) (by rw [HZP.out]; omega)]
            rintro _ w6 ⟨rfl, hf⟩
            have V6 := Lib.hid (V5.out.new_ hf)
            have M6 := Lib.hid (M5.out.new_ hf)
            have F6 := Lib.hid (F5.out.then_ hf)
            have hbw6 : b8 ≤ w6.heap.size := Nat.le_trans hbw5 hf.size
            clear hf V5 M5 F5
            go_wp2_with fail
            refine (begin_any now _).mono ?_
            rintro _ w7 ⟨rfl, hf⟩
            have V7 := Lib.hid (V6.out.new_ hf)
            have M7 := Lib.hid (M6.out.new_ hf)
            have F7 := Lib.hid (F6.out.then_ hf)
            have hbw7 : b8 ≤ w7.heap.size := Nat.le_trans hbw6 hf.size
            clear hf V6 M6 F6
            go_wp2_with fail
            go_roundw
            case rel => exact ⟨k + 1, mt, _, now, by go_num, by omega, rfl, V7.out, HG.out.2.1, M7.out, hbw7, F7.out⟩
            case measure => simp [intOf]; omega
          · obtain ⟨mt, hmt⟩ : ∃ x : Nat, nb + 1 + zn % 3 = x := ⟨_, rfl⟩
            have hmtI : (nb : Int) + 1 + (zn : Int) % 3 = (mt : Int) := by omega
            rw [hmtI]
            have hmt1 : nb < mt := by omega
            have hmt8 : mt ≤ 8 := by omega
            clear hmtI hmt
            have HG := Lib.hid (G.out.grow mt hmt1 hmt8 now)
            have HH := Lib.hid (G.out.hasGrow mt hmt1 hmt8 now)
            have hfew : VFew v := G.out.few.few (by have := HNL.out; omega)
            have hfew2 : VFew (vgrow v nb mt now) := HG.out.2.1.few.few (by have := HNL.out; omega)
            have HFE := Lib.hid (And.intro hfew hfew2)
            obtain ⟨z, hz⟩ : ∃ z, 2 ^ mt = z := ⟨_, rfl⟩
            have hz4 : 4 ≤ z := by rw [← hz]; exact Nat.pow_le_pow_right (n := 2) (by decide) (show 2 ≤ mt by omega)
            have hz256 : z ≤ 256 := by rw [← hz]; exact Nat.pow_le_pow_right (n := 2) (by decide) hmt8
            have HSZ := Lib.hid (fun V => show Calls Try.prog 13 #[.int .i64 (mt : Nat)] V fun e w' => e = .returned (.int .i64 (z : Nat)) ∧ V = w' by rw [← hz, ← sz_pow mt (by omega) hmt8]; exact size_any _ _)
            have hz1 : (z : Int) - 1 = ((z - 1 : Nat) : Int) := by omega
            have HZP := Lib.hid hz
            have e33 : ∀ V, (binOp .neq 33 (tmV now now) (tmV now now)).run Try.prog V = .ok (.bool false) V := fun V => by rw [neq33]; simp
            have eg33 := eqg33
            clear hfew hfew2 hz
            refine (has_v V.out (mt : Nat)).mono ?_
            rw [HH.out.1]
            rintro _ _ ⟨rfl, rfl⟩
            go_wp2_with fail
            refine (grow_v V.out HFE.out.1 nb (mt : Nat) now).mono ?_
            rw [HG.out.1]
            rintro _ w4 ⟨rfl, hV, hf⟩
            have V4 := Lib.hid (hV.sub (O' := fun j => w.heap.size ≤ j ∧ (j < a8 ∨ b8 ≤ j)) (fun j h1 _ h3 => h3.elim id fun h => ⟨h1, .inr (by omega)⟩))
            have M4 := Lib.hid (M.out.frm hf fun j h1 h2 h3 => by omega)
            have F4 := Lib.hid (F.out.fresh hf fun j hj => hj.1)
            have hbw4 : b8 ≤ w4.heap.size := Nat.le_trans hbw hf.size
            clear hV hf
            go_wp2_with fail
            refine (has_v V4.out nb).mono ?_
            rw [HH.out.2]
            rintro _ _ ⟨rfl, rfl⟩
            go_wp2_with fail
            refine (has_v V4.out (mt : Nat)).mono ?_
            rw [HG.out.2.1.has]
            rintro _ _ ⟨rfl, rfl⟩
            go_wp2_with fail
            refine (grow_v V4.out HFE.out.2 nb (mt : Nat) now).mono ?_
            rw [HG.out.2.2]
            rintro _ w5 ⟨rfl, hV, hf⟩
            rw [show vgrow (vgrow v nb (mt : Nat) now) nb (mt : Nat) now = vgrow v nb (mt : Nat) now from if_neg (by rw [HG.out.2.2]; decide)] at hV
            have V5 := Lib.hid (hV.sub (O' := fun j => w.heap.size ≤ j ∧ (j < a8 ∨ b8 ≤ j)) (fun j h1 _ h3 => h3.elim id fun h => ⟨h1, .inr (by omega)⟩))
            have M5 := Lib.hid (M4.out.frm hf fun j h1 h2 h3 => by omega)
            have F5 := Lib.hid (F4.out.fresh hf fun j hj => hj.1)
            have hbw5 : b8 ≤ w5.heap.size := Nat.le_trans hbw4 hf.size
            clear hV hf V4 M4 F4
            go_wp2_with fail
            refine (HSZ.out _).mono ?_
            rintro _ _ ⟨rfl, rfl⟩
            go_wp2_with fail
            try rw [hz1]
            refine (timer_v V5.out (mt : Nat) (z - 1 : Nat)).mono ?_
            rw [HG.out.2.1.tm (z - 1) (by rw [HZP.out]; omega)]
            rintro _ w6 ⟨rfl, hf⟩
            have V6 := Lib.hid (V5.out.new_ hf)
            have M6 := Lib.hid (M5.out.new_ hf)
            have F6 := Lib.hid (F5.out.then_ hf)
            have hbw6 : b8 ≤ w6.heap.size := Nat.le_trans hbw5 hf.size
            clear hf V5 M5 F5
            go_wp2_with fail
            refine (begin_any now _).mono ?_
            rintro _ w7 ⟨rfl, hf⟩
            have V7 := Lib.hid (V6.out.new_ hf)
            have M7 := Lib.hid (M6.out.new_ hf)
            have F7 := Lib.hid (F6.out.then_ hf)
            have hbw7 : b8 ≤ w7.heap.size := Nat.le_trans hbw6 hf.size
            clear hf V6 M6 F6
            go_wp2_with fail
            go_roundw
            case rel => exact ⟨k + 1, mt, _, now, by go_num, by omega, rfl, V7.out, HG.out.2.1, M7.out, hbw7, F7.out⟩
            case measure => simp [intOf]; omega
        · have e8 : ¬ (nb : Int) < 8 := by omega
          have e9 : decide ((nb : Int) < 8) = false := by rw [decide_eq_false_iff_not]; exact e8
          go_wp2_with fail
          go_meet
          exact ⟨nb, v, tm, rfl, V.out, G.out, M.out, hbw, F.out⟩
      · obtain rfl : k = m := by omega
        go_wp2_with fail
        go_meet
        exact ⟨nb, v, tm, rfl, V.out, G.out, M.out, hbw, F.out⟩
  case rest =>
    obtain ⟨nb, v, tm, rfl, hV, hG, hM, hbw, hF⟩ := hcut
    have nb2 := hG.h2
    have nb8 := hG.h8
    have hl60 : l.length ≤ 60 := by have := HNL.out; omega
    have V := Lib.hid hV
    have G := Lib.hid hG
    have F := Lib.hid hF
    have hfew : VFew v := hG.few.few (by omega)
    have HFE := Lib.hid hfew
    have hrs := rehash_bks nb nb2 nb8 l
    have hq2 : ∀ q ∈ bks 2 l, q.length ≤ 4000 ∧ ∀ x ∈ q, EnOk x := by
      intro q hq
      unfold bks at hq
      obtain ⟨b, _, rfl⟩ := List.mem_map.1 hq
      exact ⟨Nat.le_trans (bk_len 2 b l) (by omega), fun x hx => HOK.out x (List.mem_filter.1 hx).1⟩
    have HRE := Lib.hid (rehash_in A8 4 c8 nb hs8 (bks 2 l) wc nb2 nb8 hM.rd (by decide) (fun q hq => (hq2 q hq).1) (fun q hq => (hq2 q hq).2) (Nat.le_trans (rehash_few 2 l) (by omega)))
    obtain ⟨z, hz⟩ : ∃ z, 2 ^ nb = z := ⟨_, rfl⟩
    have hz4 : 4 ≤ z := by rw [← hz]; exact Nat.pow_le_pow_right (n := 2) (by decide) nb2
    have hz256 : z ≤ 256 := by rw [← hz]; exact Nat.pow_le_pow_right (n := 2) (by decide) nb8
    have HQS := Lib.hid (fun V0 (hf : Frm wc V0 fun _ => False) => queues_any s _ nb _ _ V0 nb2 nb8 (V.out.new_ hf) HFE.out)
    rw [hG.qs, hz] at HQS
    rw [hrs, hz] at HRE
    have hzl : (bks nb l).length = z := by rw [bks_len, hz]
    obtain ⟨Q, hQ⟩ : ∃ Q, bks nb l = Q := ⟨_, rfl⟩
    rw [hQ] at HQS HRE hzl
    have HQE := Lib.hid hQ
    have HZL := Lib.hid hzl
    have hQ60 : ∀ q ∈ Q, q.length ≤ 60 := by
      intro q hq
      rw [← hQ] at hq
      unfold bks at hq
      obtain ⟨b, _, rfl⟩ := List.mem_map.1 hq
      exact Nat.le_trans (bk_len nb b l) (by omega)
    have HQ60 := Lib.hid hQ60
    clear hV hG hM hF hfew hrs hq2 hz hQ hzl hQ60 V3 M2 F2 hbw hs12 hw1
    go_wp2_with fail
    refine HRE.out.mono ?_
    rintro _ w11 ⟨g12, hs1, rfl, hO, -, hf⟩
    have M1 := Lib.hid hO.rd
    have F1 := Lib.hid hf
    clear hO hf HRE
    go_wp2_with fail
    refine (HQS.out _ F1.out).mono ?_
    rintro _ w12 ⟨A13, c13, hs2, rfl, hO, hf⟩
    have N1 := Lib.hid (M1.out.new_ hf)
    have N2 := Lib.hid hO.rd
    have V12 := Lib.hid (V.out.new_ (F1.out.then_ hf))
    have F12 := Lib.hid (F.out.then_ (F1.out.then_ hf))
    clear hO hf M1 F1 HQS V F
    have e43 := neq43
    have eg43 := eqg43
    go_wp2_with fail
    go_loopw [14, 15] (fun i j wr => ∃ k : Nat, i = .int .i64 k ∧ k ≤ z ∧ Frm w12 wr fun _ => False) (fun i _ _ => z - (intOf i).toNat)
    case atStart => exact ⟨0, rfl, Nat.zero_le _, Frm.refl _ _⟩
    case round =>
      obtain ⟨k, rfl, hkz, hF⟩ := hrel
      have F := Lib.hid hF
      clear hF
      by_cases hlk : k < z
      · have k0 : (0 : Int) ≤ (k : Int) := by omega
        have k1 : (k : Int) < (z : Int) := by omega
        obtain ⟨ga, oa, Ak, mk, ck, q, e1, -, p0, hr1, hq1, -, hm1⟩ := (N1.out.new_ F.out).at hlk
        obtain ⟨gb, ob, Bk, mk', dk, q', rfl, -, p1, hr2, hq2, -, hm2⟩ := (N2.out.new_ F.out).at hlk
        injection e1 with e1
        injection e1 with e1 e2
        subst e1 e2
        rw [hq1] at hq2
        injection hq2 with hq2
        subst hq2
        obtain rfl : mk' = mk := by rw [hm1, hm2]
        have hm60 : (mk' : Int) ≤ 60 := by have := HQ60.out q (List.mem_of_getElem? hq1); omega
        rw [Nat.zero_add] at p0
        have HQL := Lib.hid hm1
        have HR1 := Lib.hid hr1
        have HR2 := Lib.hid hr2
        have HP := Lib.hid (And.intro p0 p1)
        replace p0 := Grown.cell p0
        replace p1 := Grown.cell p1
        have nn : ((mk' : Int) != (mk' : Int)) = false := by simp
        clear hm1 hm2 hr1 hr2 hq1
        go_wp2_with fail
        refine wp_region_grown wr (Frm.refl _ _) (by kernel_rfl) (by kernel_rfl) ?_
        repeat (go_big_quiet_step (fail))
        refine wpQuiet_nil ?_
        intro wq hq
        have DQ := Lib.hid hq
        clear hq p0 p1
        go_wp2_with fail
        go_loopw [15] (fun i wt => ∃ j : Nat, i = .int .i64 j ∧ j ≤ mk' ∧ Frm wr wt fun _ => False) (fun i _ => mk' - (intOf i).toNat)
        case atStart => exact ⟨0, rfl, Nat.zero_le _, DQ.out⟩
        case round =>
          obtain ⟨j, rfl, hjm, hT⟩ := hrel
          have T := Lib.hid hT
          have p0 := hT.cell HP.out.1 id
          have p1 := hT.cell HP.out.2 id
          clear hT
          by_cases hlj : j < mk'
          · have j0 : (0 : Int) ≤ (j : Int) := by omega
            have j1 : (j : Int) < (mk' : Int) := by omega
            have hjq : j < q.length := by have := HQL.out; omega
            obtain ⟨gc, oc, rfl, -, cc⟩ := (Rd.ens (HR1.out.new_ T.out)).2 (by omega)
            obtain ⟨gd, od, rfl, -, cd⟩ := (Rd.ens (HR2.out.new_ T.out)).2 (by omega)
            obtain ⟨r0, r1, r2⟩ := cc j hjq
            obtain ⟨s0, s1, s2⟩ := cd j hjq
            clear cc cd
            go_wp2_with fail
            replace p0 := Grown.cell p0
            replace p1 := Grown.cell p1
            replace r0 := Grown.cell r0
            replace r1 := Grown.cell r1
            replace r2 := Grown.cell r2
            replace s0 := Grown.cell s0
            replace s1 := Grown.cell s1
            replace s2 := Grown.cell s2
            refine wp_region_grown wr (Frm.refl _ _) (by kernel_rfl) (by kernel_rfl) ?_
            repeat (go_big_quiet_step (fail))
            refine wpQuiet_nil ?_
            intro wq2 hq2
            have DQ2 := Lib.hid hq2
            clear hq2 p0 p1 r0 r1 r2 s0 s1 s2
            go_wp2_with fail
            go_roundw
            case rel => exact ⟨j + 1, by go_num, by omega, T.out.then_ DQ2.out⟩
            case measure => simp [intOf]; omega
          · obtain rfl : j = mk' := by omega
            go_wp2_with fail
            go_roundw
            case rel => exact ⟨k + 1, by go_num, by omega, F.out.then_ T.out⟩
            case measure => simp [intOf]; omega
      · obtain rfl : k = z := by omega
        have V13 := Lib.hid (V12.out.new_ F.out)
        have F13 := Lib.hid (F12.out.then_ F.out)
        have HPL := Lib.hid (fun th => pls_GI G.out th)
        have nb8' : (nb : Int) ≤ 8 := by omega
        clear e43 eg43 N1 N2 V12 F12 F HQ60 HZL HQE
        go_wp2_with fail
        go_loopw [16, 17, 18, 19, 20] (fun i j1 j2 j3 j4 wt => ∃ k : Nat, i = .int .i64 k ∧ k ≤ n ∧ Frm wr wt fun _ => False) (fun i _ _ _ _ _ => n - (intOf i).toNat)
        case atStart => exact ⟨0, rfl, Nat.zero_le _, Frm.refl _ _⟩
        case round =>
          obtain ⟨i, rfl, hin, hF⟩ := hrel
          have F := Lib.hid hF
          clear hF
          by_cases hli : i < n
          · have i0 : (0 : Int) ≤ (i : Int) := by omega
            have i1 : (i : Int) < (n : Int) := by omega
            have hil : i < l.length := by have := HNL.out; omega
            obtain ⟨x, hx⟩ : ∃ x, l[i] = x := ⟨_, rfl⟩
            obtain ⟨gl, ol, rfl, -, cl⟩ := (Rd.ens (HR.out.new_ (F13.out.then_ F.out))).2 (by omega)
            obtain ⟨x0, -, -⟩ := cl i hil
            rw [hx] at x0
            obtain ⟨P, hP⟩ : ∃ P, pls x.t v = P := ⟨_, rfl⟩
            obtain ⟨hpa, hpn⟩ := HPL.out x.t
            rw [hP] at hpa hpn
            have HPA := Lib.hid hpa
            have HPN := Lib.hid hpn
            clear cl hpa hpn
            go_wp2_with fail
            refine (places_v (V13.out.new_ F.out) HFE.out x.t).mono ?_
            rw [hP]
            rintro _ w20 ⟨A17, n17, rfl, hS, hf⟩
            have S17 := Lib.hid hS
            have F20 := Lib.hid (F.out.then_ hf)
            have hn17 : n17 = P.length := by have := hS.len; rw [plc_len] at this; omega
            have HN17 := Lib.hid hn17
            clear hS hf F x0 hP hn17
            go_wp2_with fail
            go_loopw [18, 19] (fun c j wt => ∃ (k : Nat) (y : Nat), j = .int .i64 k ∧ k ≤ n ∧ c = .int .i64 y ∧ y = ((l.take k).countP fun e => e.t == x.t) ∧ Frm w20 wt fun _ => False) (fun _ j _ => n - (intOf j).toNat)
            case atStart => exact ⟨0, 0, rfl, Nat.zero_le _, rfl, by simp, Frm.refl _ _⟩
            case round =>
              obtain ⟨j, y, rfl, hjn, rfl, hy, hF⟩ := hrel
              have F := Lib.hid hF
              have HY := Lib.hid hy
              have hyj : y ≤ 60 := by rw [hy]; exact Nat.le_trans List.countP_le_length (by rw [List.length_take]; omega)
              clear hF hy
              by_cases hlj : j < n
              · have j0 : (0 : Int) ≤ (j : Int) := by omega
                have j1 : (j : Int) < (n : Int) := by omega
                have hjl : j < l.length := by have := HNL.out; omega
                obtain ⟨x', hx'⟩ : ∃ x, l[j] = x := ⟨_, rfl⟩
                have hxj : l[j]? = some x' := by rw [List.getElem?_eq_getElem hjl, hx']
                have HCT := Lib.hid (countP_take l (fun e => e.t == x.t) j x' hxj)
                obtain ⟨gm, om, e1, -, cl⟩ := (Rd.ens (HR.out.new_ (F13.out.then_ (F20.out.then_ F.out)))).2 (by omega)
                injection e1 with e1
                injection e1 with e1 e2
                subst e1 e2
                obtain ⟨x0, -, -⟩ := cl i hil
                obtain ⟨x1, -, -⟩ := cl j hjl
                rw [hx] at x0
                rw [hx'] at x1
                replace x0 := Grown.cell x0
                replace x1 := Grown.cell x1
                clear cl hxj hx'
                cases hxx : x'.t == x.t with
                | true =>
                  have HXX := Lib.hid hxx
                  go_wp2_with fail
                  refine wp_region_grown wr (Frm.refl _ _) (by kernel_rfl) (by kernel_rfl) ?_
                  repeat (go_big_quiet_step (fail))
                  refine wpQuiet_nil ?_
                  intro wq2 hq2
                  have DQ2 := Lib.hid hq2
                  clear hq2 x0 x1
                  go_wp2_with fail
                  go_roundw
                  case rel => exact ⟨j + 1, y + 1, by go_num, by omega, by go_num, by rw [HCT.out, HXX.out, ← HY.out]; rfl, F.out.then_ DQ2.out⟩
                  case measure => simp [intOf]; omega
                | false =>
                  have HXX := Lib.hid hxx
                  go_wp2_with fail
                  refine wp_region_grown wr (Frm.refl _ _) (by kernel_rfl) (by kernel_rfl) ?_
                  repeat (go_big_quiet_step (fail))
                  refine wpQuiet_nil ?_
                  intro wq2 hq2
                  have DQ2 := Lib.hid hq2
                  clear hq2 x0 x1
                  go_wp2_with fail
                  go_roundw
                  case rel => exact ⟨j + 1, y, by go_num, by omega, rfl, by rw [HCT.out, HXX.out, ← HY.out]; rfl, F.out.then_ DQ2.out⟩
                  case measure => simp [intOf]; omega
              · obtain rfl : j = n := by omega
                have hyn : y = n17 := by
                  rw [HY.out, HN17.out, HPN.out, List.take_of_length_le (by rw [← HNL.out]; exact Nat.le_refl _)]
                subst hyn
                have F21 := Lib.hid (F20.out.then_ F.out)
                have S18 := Lib.hid (S17.out.new_ F.out)
                have nn : ((y : Int) != (y : Int)) = false := by simp
                clear HY F20 S17 F
                go_wp2_with fail
                go_loopw [20] (fun i wt => ∃ k : Nat, i = .int .i64 k ∧ k ≤ y ∧ Frm wr wt fun _ => False) (fun i _ => y - (intOf i).toNat)
                case atStart => exact ⟨0, rfl, Nat.zero_le _, Frm.refl _ _⟩
                case round =>
                  obtain ⟨k6, rfl, hk6, hF⟩ := hrel
                  have F := Lib.hid hF
                  clear hF
                  by_cases hl6 : k6 < y
                  · have j0 : (0 : Int) ≤ (k6 : Int) := by omega
                    have j1 : (k6 : Int) < (y : Int) := by omega
                    have hkP : k6 < P.length := by have := HN17.out; omega
                    obtain ⟨⟨pa, pb⟩, hpx⟩ : ∃ p, P[k6] = p := ⟨_, rfl⟩
                    have hpk : P[k6]? = some (pa, pb) := by rw [List.getElem?_eq_getElem hkP, hpx]
                    have hpa : pa = (nb : Int) := HPA.out (pa, pb) (List.mem_of_getElem? hpk)
                    subst hpa
                    obtain ⟨hl9, hc9⟩ := Rd.rows (c := fun p : Int × Int => [Value.int .i64 p.1, Value.int .i64 p.2]) (m := 2) (fun _ => rfl) (by decide) ((S18.out.new_ F.out).rd)
                    obtain ⟨g7, o7, rfl, -, hcell⟩ := hc9 (by omega)
                    have q0 := hcell k6 hkP 0 (.int .i64 nb) (by rw [hpx]; rfl)
                    have q1 := hcell k6 hkP 1 (.int .i64 pb) (by rw [hpx]; rfl)
                    have nn2 : ((nb : Int) != (nb : Int)) = false := by simp
                    rw [Nat.add_zero] at q0
                    clear hc9 hcell hl9 hpk hpx
                    go_wp2_with fail
                    go_roundw
                    case rel => exact ⟨k6 + 1, by go_num, by omega, F.out⟩
                    case measure => simp [intOf]; omega
                  · obtain rfl : k6 = y := by omega
                    go_wp2_with fail
                    go_roundw
                    case rel => exact ⟨i + 1, by go_num, by omega, F21.out.then_ F.out⟩
                    case measure => simp [intOf]; omega
          · obtain rfl : i = n := by omega
            have F22 := Lib.hid (F13.out.then_ F.out)
            go_wp2_with (go_at_call 7; refine (lives_any _).mono ?_; rintro _ w' ⟨rfl, hf⟩; have HL2 := Lib.hid (F22.out.then_ hf); clear hf)
            go_ret
            exact ⟨rfl, HL2.out⟩
end Go.Proofs.Ytajcijocjbakbaa
