import Derived.Test.YtajcijocjbakbaaTdK
import Derived.Test.YtajcijocjbakbaaTdL
import Derived.Deep.RegionHeld3
namespace Go.Proofs.Ytajcijocjbakbaa
open Go.RowKit

abbrev actV (k d i tt now : Int) (X : Option Addr) (n c : Nat) (a f : Int) : Value := .agg #[.int .u8 k, .int .i64 d, .int .i64 i, .int .i64 tt, .int .u64 now, .slice X n c, .int .u64 a, .int .u64 f]
/-- The act's box, the place's box. -/
structure DoBx (V : World) (ab pb : Nat) (k d i tt now : Int) (X : Option Addr) (n c : Nat) (a f : Int) : Prop where
  c0 : V.cell? ⟨ab, 0, none⟩ = some (.int .u8 k)
  c1 : V.cell? ⟨ab, 1, none⟩ = some (.int .i64 d)
  c2 : V.cell? ⟨ab, 2, none⟩ = some (.int .i64 i)
  c3 : V.cell? ⟨ab, 3, none⟩ = some (.int .i64 tt)
  c4 : V.cell? ⟨ab, 4, none⟩ = some (.int .u64 now)
  c5 : V.cell? ⟨ab, 5, none⟩ = some (.slice X n c)
  c6 : V.cell? ⟨ab, 6, none⟩ = some (.int .u64 a)
  c7 : V.cell? ⟨ab, 7, none⟩ = some (.int .u64 f)
  p0 : V.cell? ⟨pb, 0, none⟩ = some (.int .i64 d)
  p1 : V.cell? ⟨pb, 1, none⟩ = some (.int .i64 i)
theorem DoBx.frm {V V' : World} {ab pb : Nat} {k d i tt now : Int} {X : Option Addr} {n c : Nat} {a f : Int} {S : Nat → Prop} (h : DoBx V ab pb k d i tt now X n c a f) (hf : Frm V V' S) (n0 : ¬ S ab) (n1 : ¬ S pb) : DoBx V' ab pb k d i tt now X n c a f :=
  ⟨hf.cell h.c0 n0, hf.cell h.c1 n0, hf.cell h.c2 n0, hf.cell h.c3 n0, hf.cell h.c4 n0, hf.cell h.c5 n0, hf.cell h.c6 n0, hf.cell h.c7 n0, hf.cell h.p0 n1, hf.cell h.p1 n1⟩
theorem DoBx.new_ {V V' : World} {ab pb : Nat} {k d i tt now : Int} {X : Option Addr} {n c : Nat} {a f : Int} (h : DoBx V ab pb k d i tt now X n c a f) (hf : Frm V V' fun _ => False) : DoBx V' ab pb k d i tt now X n c a f := h.frm hf id id
/-- What an act leaves. -/
structure Done (w w' : World) (B sp sr : Nat) (Op Or : Nat → Prop) (N : Nat) : Prop where
  ex : ∃ (v' : List Vt) (Op' Or' : Nat → Prop), Both w' B sp sr Op' Or' v' ∧ VFewN v' (N + 60) ∧ (∀ j, Op' j → Op j ∨ w.heap.size ≤ j) ∧ (∀ j, Or' j → Or j ∨ w.heap.size ≤ j)
  frm : Frm w w' fun j => Op j ∨ Or j
theorem VFewN.le {v : List Vt} {N M : Nat} (h : VFewN v N) (hNM : N ≤ M) : VFewN v M := fun d => Nat.le_trans (h d) hNM
theorem sl_none {w : World} {B size n c : Nat} {A : Option Addr} {xs : List Value} (h : Sl w B size A n c xs) (e : A = none) : c = 0 := by
  rcases h.row with ⟨_, h0⟩ | ⟨g, off, hA, _⟩
  · exact h0
  · rw [e] at hA; cases hA
/-- What the act's cases begin with. -/
structure DoSt (w U : World) (B sp sr : Nat) (Op Or : Nat → Prop) (v : List Vt) (ab pb : Nat) (k d i tt now : Int) (X : Option Addr) (n c : Nat) (a f : Int) : Prop where
  bx : DoBx U ab pb k d i tt now X n c a f
  p : SetV U B sp (fun j => Op j ∧ j < w.heap.size) v
  r : RV U B sr (fun j => Or j ∧ j < w.heap.size) v
  dj : ∀ j, Op j → ¬ Or j
  lt : w.heap.size ≤ ab ∧ ab < U.heap.size ∧ w.heap.size ≤ pb ∧ pb < U.heap.size
  fr : Frm w U fun _ => False
set_option maxRecDepth 100000 in
set_option maxHeartbeats 2000000 in
theorem do0_any (B sp sr N : Nat) (Op Or : Nat → Prop) (v : List Vt) (k d i tt now : Int) (X : Option Addr) (n c : Nat) (a f : Int) (w : World) (h : Both w B sp sr Op Or v) (hv : VFewN v N) (hN : N ≤ 3600) (hk : k % 5 = 0) (hk0 : 0 ≤ k ∧ k ≤ 255) (xs : List En) (hr : Rd w w.heap.size 3 X n (ens xs)) (hn : n ≤ 60) (hX : 0 < n → ∀ j, blk X j → ¬ Op j ∧ ¬ Or j) (hok : ∀ x ∈ xs, EnOk x) :
    Calls Try.prog 19 #[.pointer (some ⟨sp, 0, none⟩), .pointer (some ⟨sr, 0, none⟩), actV k d i tt now X n c a f] w fun e w' => e = .returned (.bool true) ∧ Done w w' B sp sr Op Or N := by
  have H := Lib.hid h
  have HV := Lib.hid (hv.few (by omega))
  have HVN := Lib.hid hv
  obtain ⟨i43, hi, hz0, hz1, hz2⟩ := info_parts info43
  have HR := Lib.hid hr
  have HX := Lib.hid hX
  have HOK := Lib.hid hok
  have hnl := (Rd.ens hr).1
  have HNL := Lib.hid hnl
  obtain ⟨r1, r2⟩ : 0 + n ≤ maxLen ∧ (0 + n) * 24 ≤ 140737488355328 := by unfold maxLen; omega
  clear hr hX hok hnl
  have eq0 : (k % 5 == 0) = true := by rw [hk]; rfl
  obtain ⟨kl, kh⟩ := hk0
  obtain ⟨y, hy⟩ : ∃ y, k % 5 = y := ⟨_, rfl⟩
  clear h hv hk
  go_enter Try.func19, Try.ntmps19
  go_wp2_with fail
  refine (otherP_any d i _).mono ?_
  rintro _ w2 ⟨rfl, hf⟩
  have hF2 : Frm w w2 fun _ => False := ((Frm.refl w fun _ => False).alloc (.cells #[.int .u8 k, .int .i64 d, .int .i64 i, .int .i64 tt, .int .u64 now, .slice X n c, .int .u64 a, .int .u64 f] 52)).then_ hf
  have a0 := hf.cell (p := ⟨w.heap.size, 0, none⟩) (v := .int .u8 k) (by go_simp) id
  have a1 := hf.cell (p := ⟨w.heap.size, 1, none⟩) (v := .int .i64 d) (by go_simp) id
  have a2 := hf.cell (p := ⟨w.heap.size, 2, none⟩) (v := .int .i64 i) (by go_simp) id
  have a3 := hf.cell (p := ⟨w.heap.size, 3, none⟩) (v := .int .i64 tt) (by go_simp) id
  have a4 := hf.cell (p := ⟨w.heap.size, 4, none⟩) (v := .int .u64 now) (by go_simp) id
  have a5 := hf.cell (p := ⟨w.heap.size, 5, none⟩) (v := .slice X n c) (by go_simp) id
  have a6 := hf.cell (p := ⟨w.heap.size, 6, none⟩) (v := .int .u64 a) (by go_simp) id
  have a7 := hf.cell (p := ⟨w.heap.size, 7, none⟩) (v := .int .u64 f) (by go_simp) id
  have hlt2 : w.heap.size < w2.heap.size := by have := hf.size; simp at this; omega
  have hne2 : w.heap.size ≠ w2.heap.size := by omega
  clear hf
  go_upto_region 4 with fail
  refine at_world' ?_
  intro U hU
  have hFU : Frm w2 U fun _ => False := by rw [hU]; exact (Frm.refl _ _).alloc _
  have hst : DoSt w U B sp sr Op Or v w.heap.size w2.heap.size k d i tt now X n c a f := by
    refine ⟨⟨hFU.cell a0 id, hFU.cell a1 id, hFU.cell a2 id, hFU.cell a3 id, hFU.cell a4 id, hFU.cell a5 id, hFU.cell a6 id, hFU.cell a7 id, by rw [hU]; go_simp, by rw [hU]; go_simp⟩, ?_, ?_, H.out.dj, ?_, hF2.then_ hFU⟩
    · exact (H.out.p.sub fun j h1 h2 h3 => ⟨h3, h2⟩).new_ (hF2.then_ hFU)
    · exact (H.out.r.sub fun j h1 h2 h3 => ⟨h3, h2⟩).new_ (hF2.then_ hFU)
    · have h1 : w2.heap.size < U.heap.size := by rw [hU]; simp
      omega
  obtain ⟨ab, hab⟩ : ∃ x, w.heap.size = x := ⟨_, rfl⟩
  obtain ⟨pb, hpb⟩ : ∃ x, w2.heap.size = x := ⟨_, rfl⟩
  rw [hab, hpb] at hst ⊢
  have ST := Lib.hid hst
  obtain ⟨h1, h2, h3, h4⟩ := hst.lt
  obtain ⟨⟨c0, c1, c2, c3, c4, c5, c6, c7, p0, p1⟩, -, -, -, -, -⟩ := hst
  have HAB := Lib.hid hab
  clear hU hFU hF2 a0 a1 a2 a3 a4 a5 a6 a7 hlt2 hne2 hpb hab
  have HRU := Lib.hid (HR.out.new_ ST.out.fr)
  go_wp2_with (first
    | (at_builtin; refine wpList_append_sl _ rfl (.const (.slice none 0 0)) (.tmp 20) 22 rfl U.heap.size 43 i43 _ 3 24 Try.underlying22 hi hz0 hz1 hz2 rfl (by decide) none 0 0 [] rfl (Sl.nil _ _ _) X n c (ens xs) rfl HRU.out (ens_one xs) r1 r2 (Nat.le_refl _) ?_; intro A8 c8 w4 hap; rw [Nat.zero_add, List.nil_append] at hap; have S8 := Lib.hid hap.1; have F8 := Lib.hid (hap.2.1.mono (S' := fun _ => False) fun j _ hj => blk_none j hj); clear hap; obtain ⟨c0, c1, c2, c3, c4, c5, c6, c7, p0, p1⟩ := ST.out.bx.new_ F8.out)
    | (go_at_call 23; refine (put_v (ST.out.p.new_ F8.out) d i A8 n c8 xs S8.out.rd (sl_none S8.out) S8.out.le (by omega) HOK.out).mono ?_; rintro _ w5 ⟨rfl, hV, hf⟩; have VP := Lib.hid (hV.sub (O' := fun j => (Op j ∧ j < w.heap.size) ∨ (w4.heap.size ≤ j ∧ j < w5.heap.size)) (fun j q1 q2 q3 => q3.imp_right fun q => ⟨q, q2⟩)); have FP := Lib.hid ((F8.out.none_ fun j => Op j ∧ j < w.heap.size).then_ hf); have VR := Lib.hid ((ST.out.r.new_ F8.out).frm hf fun j h1 h2 => ST.out.dj j h2.1 h1.1); have S9 := Lib.hid (S8.out.frm hf fun j q1 q2 => by have := (S8.out.ge q1).1; have := ST.out.fr.size; omega); have HS5 := Lib.hid hf.size; obtain ⟨c0, c1, c2, c3, c4, c5, c6, c7, p0, p1⟩ := ST.out.bx.frm FP.out (fun h => by have := HAB.out; omega) (fun h => by have := HAB.out; omega); clear hV hf)
    | (go_at_call 36; refine (spoil_any U.heap.size A8 n c8 (ens xs) _ S9.out (by omega)).mono ?_; rintro _ w6 ⟨rfl, hf⟩; have hA8 : Hid (∀ j, blk A8 j → U.heap.size ≤ j ∧ j < w4.heap.size) := Lib.hid (fun j hj => S8.out.ge hj); have VP6 := Lib.hid (VP.out.frm hf fun j q1 q2 => by have := hA8.out j q2; have := ST.out.fr.size; omega); have VR6 := Lib.hid (VR.out.frm hf fun j q1 q2 => by have := hA8.out j q2; have := ST.out.fr.size; omega); have FT := Lib.hid (((ST.out.fr.none_ fun j => Op j).then_ (FP.out.mono fun j _ hj => hj.1)).trans hf fun j q1 q2 => by have := hA8.out j q2; have := ST.out.fr.size; omega); have BX6 := Lib.hid ((ST.out.bx.frm FP.out (fun h => by have := HAB.out; omega) (fun h => by have := HAB.out; omega)).frm hf (fun h => by have := hA8.out _ h; omega) (fun h => by have := hA8.out _ h; omega)); have HS6 := Lib.hid hf.size; clear hf; obtain ⟨c0, c1, c2, c3, c4, c5, c6, c7, p0, p1⟩ := BX6.out))
  have HX6 : Hid (Rd w6 w6.heap.size 3 X n (ens xs)) := by
    by_cases h0 : n = 0
    · have hx0 : xs = [] := List.eq_nil_of_length_eq_zero (by have := HNL.out; omega)
      subst h0
      rw [hx0]
      exact Lib.hid (Rd.nil _ _ _ _)
    · exact Lib.hid (HR.out.frm FT.out fun j hj => (HX.out (by omega) j hj).1)
  have D := Lib.hid ((Frm.refl w6 fun _ => False).drew)
  go_region_held3 (fun w' => w'.cell? ⟨ab, 0, none⟩ = some (.int .u8 k) ∧ w'.cell? ⟨ab, 1, none⟩ = some (.int .i64 d) ∧ w'.cell? ⟨ab, 2, none⟩ = some (.int .i64 i) ∧ w'.cell? ⟨ab, 3, none⟩ = some (.int .i64 tt) ∧ w'.cell? ⟨ab, 4, none⟩ = some (.int .u64 now) ∧ w'.cell? ⟨ab, 5, none⟩ = some (.slice X n c) ∧ w'.cell? ⟨ab, 6, none⟩ = some (.int .u64 a) ∧ w'.cell? ⟨ab, 7, none⟩ = some (.int .u64 f) ∧ w'.cell? ⟨pb, 0, none⟩ = some (.int .i64 d) ∧ w'.cell? ⟨pb, 1, none⟩ = some (.int .i64 i)) (first | assumption | go_keep | (refine ⟨?_, ?_, ?_, ?_, ?_, ?_, ?_, ?_, ?_, ?_⟩ <;> first | assumption | go_keep)) (first
    | (go_at_call 38; refine (others_any X n c xs _ (HX6.out.new_ D.out) (by omega)).mono ?_; rintro _ w7 ⟨Am, cm, rfl, hS, hf⟩; have SM := Lib.hid hS.rd; replace D := Lib.hid (D.out.then_ hf); clear hS hf; obtain ⟨c0, c1, c2, c3, c4, c5, c6, c7, p0, p1⟩ := BX6.out.new_ D.out)
    | (go_at_call 37; refine (rput_v (VR6.out.new_ D.out) d i Am n cm xs SM.out (by omega)).mono ?_; rintro _ w9 ⟨rfl, hV, hf⟩; have VR9 := Lib.hid (hV.sub (O' := fun j => (Or j ∧ j < w.heap.size) ∨ w6.heap.size ≤ j) (fun j q1 q2 q3 => q3.imp_right fun q => Nat.le_trans D.out.size q)); have FR := Lib.hid ((D.out.none_ fun j => Or j ∧ j < w.heap.size).then_ hf); have VP9 := Lib.hid ((VP6.out.new_ D.out).frm hf fun j h1 h2 => h1.elim (fun q => ST.out.dj j q.1 h2.1) (fun q => by have := ST.out.fr.size; have := F8.out.size; omega)); have BX9 := Lib.hid ((BX6.out.new_ D.out).frm hf (fun h => by have := HAB.out; omega) (fun h => by have := HAB.out; omega)); clear hV hf; obtain ⟨c0, c1, c2, c3, c4, c5, c6, c7, p0, p1⟩ := BX9.out))
  all_goals
    go_wp2_with fail
    go_ret
    have hs1 := ST.out.fr.size
    have hs4 := F8.out.size
    have hs5 := HS5.out
    have hs6 := HS6.out
    have hxl : xs.length ≤ 60 := by have := HNL.out; omega
    refine ⟨by simp, ⟨⟨_, _, _, ⟨VP9.out, VR9.out, fun j h1 h2 => ?_⟩, HVN.out.putq d i xs hxl, fun j hj => hj.imp (fun q => q.1) (fun q => by omega), fun j hj => hj.imp (fun q => q.1) (fun q => by omega)⟩, ?_⟩⟩
    · rcases h1 with h1 | h1 <;> rcases h2 with h2 | h2
      · exact ST.out.dj j h1.1 h2.1
      · omega
      · omega
      · omega
    · exact (FT.out.mono fun j _ hj => .inl hj).then_ (FR.out.mono fun j _ hj => .inr hj.1)
set_option maxRecDepth 100000 in
set_option maxHeartbeats 2000000 in
theorem do1_any (B sp sr N : Nat) (Op Or : Nat → Prop) (v : List Vt) (k d i tt now : Int) (X : Option Addr) (n c : Nat) (a f : Int) (w : World) (h : Both w B sp sr Op Or v) (hv : VFewN v N) (hN : N ≤ 3600) (hk : k % 5 = 1) (hk0 : 0 ≤ k ∧ k ≤ 255) :
    Calls Try.prog 19 #[.pointer (some ⟨sp, 0, none⟩), .pointer (some ⟨sr, 0, none⟩), actV k d i tt now X n c a f] w fun e w' => e = .returned (.bool true) ∧ Done w w' B sp sr Op Or N := by
  have H := Lib.hid h
  have HV := Lib.hid (hv.few (by omega))
  have HVN := Lib.hid hv
  have eq0 : (k % 5 == 0) = false := by rw [hk]; rfl
  have eq1 : (k % 5 == 1) = true := by rw [hk]; rfl
  obtain ⟨kl, kh⟩ := hk0
  obtain ⟨y, hy⟩ : ∃ y, k % 5 = y := ⟨_, rfl⟩
  clear h hv hk
  go_enter Try.func19, Try.ntmps19
  go_wp2_with fail
  refine (otherP_any d i _).mono ?_
  rintro _ w2 ⟨rfl, hf⟩
  have hF2 : Frm w w2 fun _ => False := ((Frm.refl w fun _ => False).alloc (.cells #[.int .u8 k, .int .i64 d, .int .i64 i, .int .i64 tt, .int .u64 now, .slice X n c, .int .u64 a, .int .u64 f] 52)).then_ hf
  have a0 := hf.cell (p := ⟨w.heap.size, 0, none⟩) (v := .int .u8 k) (by go_simp) id
  have a1 := hf.cell (p := ⟨w.heap.size, 1, none⟩) (v := .int .i64 d) (by go_simp) id
  have a2 := hf.cell (p := ⟨w.heap.size, 2, none⟩) (v := .int .i64 i) (by go_simp) id
  have a3 := hf.cell (p := ⟨w.heap.size, 3, none⟩) (v := .int .i64 tt) (by go_simp) id
  have a4 := hf.cell (p := ⟨w.heap.size, 4, none⟩) (v := .int .u64 now) (by go_simp) id
  have a5 := hf.cell (p := ⟨w.heap.size, 5, none⟩) (v := .slice X n c) (by go_simp) id
  have a6 := hf.cell (p := ⟨w.heap.size, 6, none⟩) (v := .int .u64 a) (by go_simp) id
  have a7 := hf.cell (p := ⟨w.heap.size, 7, none⟩) (v := .int .u64 f) (by go_simp) id
  have hlt2 : w.heap.size < w2.heap.size := by have := hf.size; simp at this; omega
  have hne2 : w.heap.size ≠ w2.heap.size := by omega
  clear hf
  go_upto_region 9 with fail
  refine at_world' ?_
  intro U hU
  have hFU : Frm w2 U fun _ => False := by rw [hU]; exact (Frm.refl _ _).alloc _
  have hst : DoSt w U B sp sr Op Or v w.heap.size w2.heap.size k d i tt now X n c a f := by
    refine ⟨⟨hFU.cell a0 id, hFU.cell a1 id, hFU.cell a2 id, hFU.cell a3 id, hFU.cell a4 id, hFU.cell a5 id, hFU.cell a6 id, hFU.cell a7 id, by rw [hU]; go_simp, by rw [hU]; go_simp⟩, ?_, ?_, H.out.dj, ?_, hF2.then_ hFU⟩
    · exact (H.out.p.sub fun j h1 h2 h3 => ⟨h3, h2⟩).new_ (hF2.then_ hFU)
    · exact (H.out.r.sub fun j h1 h2 h3 => ⟨h3, h2⟩).new_ (hF2.then_ hFU)
    · have h1 : w2.heap.size < U.heap.size := by rw [hU]; simp
      omega
  obtain ⟨ab, hab⟩ : ∃ x, w.heap.size = x := ⟨_, rfl⟩
  obtain ⟨pb, hpb⟩ : ∃ x, w2.heap.size = x := ⟨_, rfl⟩
  rw [hab, hpb] at hst ⊢
  have ST := Lib.hid hst
  obtain ⟨h1, h2, h3, h4⟩ := hst.lt
  obtain ⟨⟨c0, c1, c2, c3, c4, c5, c6, c7, p0, p1⟩, -, -, -, -, -⟩ := hst
  have HAB := Lib.hid hab
  clear hU hFU hF2 a0 a1 a2 a3 a4 a5 a6 a7 hlt2 hne2 hpb hab
  have D := Lib.hid ((Frm.refl U fun _ => False).drew)
  go_region_held3 (fun w' => w'.cell? ⟨ab, 0, none⟩ = some (.int .u8 k) ∧ w'.cell? ⟨ab, 1, none⟩ = some (.int .i64 d) ∧ w'.cell? ⟨ab, 2, none⟩ = some (.int .i64 i) ∧ w'.cell? ⟨ab, 3, none⟩ = some (.int .i64 tt) ∧ w'.cell? ⟨ab, 4, none⟩ = some (.int .u64 now) ∧ w'.cell? ⟨ab, 5, none⟩ = some (.slice X n c) ∧ w'.cell? ⟨ab, 6, none⟩ = some (.int .u64 a) ∧ w'.cell? ⟨ab, 7, none⟩ = some (.int .u64 f) ∧ w'.cell? ⟨pb, 0, none⟩ = some (.int .i64 d) ∧ w'.cell? ⟨pb, 1, none⟩ = some (.int .i64 i)) (first | assumption | go_keep | (refine ⟨?_, ?_, ?_, ?_, ?_, ?_, ?_, ?_, ?_, ?_⟩ <;> first | assumption | go_keep)) (first
    | (go_at_call 24; refine (putTimer_v (ST.out.p.new_ D.out) d i a f).mono ?_; rintro _ w5 ⟨rfl, hV, hf⟩; have VP := Lib.hid hV; have FP := Lib.hid ((D.out.none_ fun j => Op j ∧ j < w.heap.size).then_ hf); have VR := Lib.hid ((ST.out.r.new_ D.out).frm hf fun j h1 h2 => ST.out.dj j h2.1 h1.1); have BX := Lib.hid (ST.out.bx.frm FP.out (fun h => by have := HAB.out; omega) (fun h => by have := HAB.out; omega)); clear hV hf D; obtain ⟨c0, c1, c2, c3, c4, c5, c6, c7, p0, p1⟩ := BX.out; have D := Lib.hid (Frm.refl w5 fun _ => False))
    | (go_at_call 40; refine (otherT_any a f _).mono ?_; rintro _ w6 ⟨rfl, hf⟩; replace D := Lib.hid (D.out.then_ hf); clear hf; obtain ⟨c0, c1, c2, c3, c4, c5, c6, c7, p0, p1⟩ := BX.out.new_ D.out)
    | (go_at_call 39; refine (rputTimer_v (VR.out.new_ D.out) d i a f).mono ?_; rintro _ w7 ⟨rfl, hV, hf⟩; have VR7 := Lib.hid hV; have FR := Lib.hid ((D.out.none_ fun j => Or j ∧ j < w.heap.size).then_ hf); have VP7 := Lib.hid ((VP.out.new_ D.out).frm hf fun j h1 h2 => ST.out.dj j h1.1 h2.1); have BX7 := Lib.hid ((BX.out.new_ D.out).frm hf (fun h => by have := HAB.out; omega) (fun h => by have := HAB.out; omega)); clear hV hf; obtain ⟨c0, c1, c2, c3, c4, c5, c6, c7, p0, p1⟩ := BX7.out))
  all_goals
    go_wp2_with fail
    go_ret
    refine ⟨by simp, ⟨⟨_, _, _, ⟨VP7.out, VR7.out, fun j h1 h2 => ST.out.dj j h1.1 h2.1⟩, (HVN.out.putt d i a f).le (by omega), fun j hj => .inl hj.1, fun j hj => .inl hj.1⟩, ?_⟩⟩
    exact ((ST.out.fr.none_ _).then_ (FP.out.mono fun j _ hj => .inl hj.1)).then_ (FR.out.mono fun j _ hj => .inr hj.1)
set_option maxRecDepth 100000 in
set_option maxHeartbeats 2000000 in
theorem do2_any (B sp sr N : Nat) (Op Or : Nat → Prop) (v : List Vt) (k d i tt now : Int) (X : Option Addr) (n c : Nat) (a f : Int) (w : World) (h : Both w B sp sr Op Or v) (hv : VFewN v N) (hN : N ≤ 3600) (hk : k % 5 = 2) (hk0 : 0 ≤ k ∧ k ≤ 255) :
    Calls Try.prog 19 #[.pointer (some ⟨sp, 0, none⟩), .pointer (some ⟨sr, 0, none⟩), actV k d i tt now X n c a f] w fun e w' => e = .returned (.bool true) ∧ Done w w' B sp sr Op Or N := by
  have H := Lib.hid h
  have HV := Lib.hid (hv.few (by omega))
  have HVN := Lib.hid hv
  have eq0 : (k % 5 == 0) = false := by rw [hk]; rfl
  have eq1 : (k % 5 == 1) = false := by rw [hk]; rfl
  have eq2 : (k % 5 == 2) = true := by rw [hk]; rfl
  obtain ⟨kl, kh⟩ := hk0
  obtain ⟨y, hy⟩ : ∃ y, k % 5 = y := ⟨_, rfl⟩
  clear h hv hk
  go_enter Try.func19, Try.ntmps19
  go_wp2_with fail
  refine (otherP_any d i _).mono ?_
  rintro _ w2 ⟨rfl, hf⟩
  have hF2 : Frm w w2 fun _ => False := ((Frm.refl w fun _ => False).alloc (.cells #[.int .u8 k, .int .i64 d, .int .i64 i, .int .i64 tt, .int .u64 now, .slice X n c, .int .u64 a, .int .u64 f] 52)).then_ hf
  have a0 := hf.cell (p := ⟨w.heap.size, 0, none⟩) (v := .int .u8 k) (by go_simp) id
  have a1 := hf.cell (p := ⟨w.heap.size, 1, none⟩) (v := .int .i64 d) (by go_simp) id
  have a2 := hf.cell (p := ⟨w.heap.size, 2, none⟩) (v := .int .i64 i) (by go_simp) id
  have a3 := hf.cell (p := ⟨w.heap.size, 3, none⟩) (v := .int .i64 tt) (by go_simp) id
  have a4 := hf.cell (p := ⟨w.heap.size, 4, none⟩) (v := .int .u64 now) (by go_simp) id
  have a5 := hf.cell (p := ⟨w.heap.size, 5, none⟩) (v := .slice X n c) (by go_simp) id
  have a6 := hf.cell (p := ⟨w.heap.size, 6, none⟩) (v := .int .u64 a) (by go_simp) id
  have a7 := hf.cell (p := ⟨w.heap.size, 7, none⟩) (v := .int .u64 f) (by go_simp) id
  have hlt2 : w.heap.size < w2.heap.size := by have := hf.size; simp at this; omega
  have hne2 : w.heap.size ≠ w2.heap.size := by omega
  clear hf
  go_upto_region 11 with fail
  refine at_world' ?_
  intro U hU
  have hFU : Frm w2 U fun _ => False := by rw [hU]; exact (Frm.refl _ _).alloc _
  have hst : DoSt w U B sp sr Op Or v w.heap.size w2.heap.size k d i tt now X n c a f := by
    refine ⟨⟨hFU.cell a0 id, hFU.cell a1 id, hFU.cell a2 id, hFU.cell a3 id, hFU.cell a4 id, hFU.cell a5 id, hFU.cell a6 id, hFU.cell a7 id, by rw [hU]; go_simp, by rw [hU]; go_simp⟩, ?_, ?_, H.out.dj, ?_, hF2.then_ hFU⟩
    · exact (H.out.p.sub fun j h1 h2 h3 => ⟨h3, h2⟩).new_ (hF2.then_ hFU)
    · exact (H.out.r.sub fun j h1 h2 h3 => ⟨h3, h2⟩).new_ (hF2.then_ hFU)
    · have h1 : w2.heap.size < U.heap.size := by rw [hU]; simp
      omega
  obtain ⟨ab, hab⟩ : ∃ x, w.heap.size = x := ⟨_, rfl⟩
  obtain ⟨pb, hpb⟩ : ∃ x, w2.heap.size = x := ⟨_, rfl⟩
  rw [hab, hpb] at hst ⊢
  have ST := Lib.hid hst
  obtain ⟨h1, h2, h3, h4⟩ := hst.lt
  obtain ⟨⟨c0, c1, c2, c3, c4, c5, c6, c7, p0, p1⟩, -, -, -, -, -⟩ := hst
  have HAB := Lib.hid hab
  clear hU hFU hF2 a0 a1 a2 a3 a4 a5 a6 a7 hlt2 hne2 hpb hab
  have D := Lib.hid ((Frm.refl U fun _ => False).drew)
  have HEN := Lib.hid ST.out.p.en
  go_region_held3 (fun w' => w'.cell? ⟨ab, 0, none⟩ = some (.int .u8 k) ∧ w'.cell? ⟨ab, 1, none⟩ = some (.int .i64 d) ∧ w'.cell? ⟨ab, 2, none⟩ = some (.int .i64 i) ∧ w'.cell? ⟨ab, 3, none⟩ = some (.int .i64 tt) ∧ w'.cell? ⟨ab, 4, none⟩ = some (.int .u64 now) ∧ w'.cell? ⟨ab, 5, none⟩ = some (.slice X n c) ∧ w'.cell? ⟨ab, 6, none⟩ = some (.int .u64 a) ∧ w'.cell? ⟨ab, 7, none⟩ = some (.int .u64 f) ∧ w'.cell? ⟨pb, 0, none⟩ = some (.int .i64 d) ∧ w'.cell? ⟨pb, 1, none⟩ = some (.int .i64 i)) (first | assumption | go_keep | (refine ⟨?_, ?_, ?_, ?_, ?_, ?_, ?_, ?_, ?_, ?_⟩ <;> first | assumption | go_keep)) (first
    | (go_at_call 11; refine (grow_v (ST.out.p.new_ D.out) HV.out d tt now).mono ?_; rintro _ w5 ⟨rfl, hV, hf⟩; have VP := Lib.hid (hV.sub (O' := fun j => (Op j ∧ j < w.heap.size) ∨ (w.heap.size ≤ j ∧ j < w5.heap.size)) (fun j q1 q2 q3 => q3.elim .inl fun q => .inr ⟨Nat.le_trans (Nat.le_trans ST.out.fr.size D.out.size) q, q2⟩)); have FP := Lib.hid ((D.out.none_ fun j => Op j ∧ j < w.heap.size).then_ hf); have VR := Lib.hid ((ST.out.r.new_ D.out).frm hf fun j h1 h2 => ST.out.dj j h2.1 h1.1); have BX := Lib.hid (ST.out.bx.frm FP.out (fun h => by have := HAB.out; omega) (fun h => by have := HAB.out; omega)); clear hV hf D; obtain ⟨c0, c1, c2, c3, c4, c5, c6, c7, p0, p1⟩ := BX.out; have D := Lib.hid (Frm.refl w5 fun _ => False))
    | (go_at_call 41; refine (rgrow_v (VR.out.new_ D.out) HV.out HEN.out d tt now).mono ?_; rintro _ w7 ⟨rfl, hV, hf⟩; have VR7 := Lib.hid (hV.sub (O' := fun j => (Or j ∧ j < w.heap.size) ∨ w5.heap.size ≤ j) (fun j q1 q2 q3 => q3.imp_right fun q => Nat.le_trans D.out.size q)); have FR := Lib.hid ((D.out.none_ fun j => Or j ∧ j < w.heap.size).then_ hf); have VP7 := Lib.hid ((VP.out.new_ D.out).frm hf fun j h1 h2 => h1.elim (fun q => ST.out.dj j q.1 h2.1) (fun q => by omega)); have BX7 := Lib.hid ((BX.out.new_ D.out).frm hf (fun h => by have := HAB.out; omega) (fun h => by have := HAB.out; omega)); clear hV hf; obtain ⟨c0, c1, c2, c3, c4, c5, c6, c7, p0, p1⟩ := BX7.out))
  all_goals
    go_wp2_with fail
    go_ret
    have hs5 : w.heap.size ≤ w5.heap.size := Nat.le_trans ST.out.fr.size FP.out.size
    refine ⟨by simp, ⟨⟨_, _, _, ⟨VP7.out, VR7.out, fun j h1 h2 => ?_⟩, (HVN.out.grow d tt now).le (by omega), fun j hj => hj.imp (fun q => q.1) (fun q => q.1), fun j hj => hj.imp (fun q => q.1) (fun q => Nat.le_trans hs5 q)⟩, ?_⟩⟩
    · rcases h1 with h1 | h1 <;> rcases h2 with h2 | h2
      · exact ST.out.dj j h1.1 h2.1
      · omega
      · omega
      · omega
    · exact ((ST.out.fr.none_ _).then_ (FP.out.mono fun j _ hj => .inl hj.1)).then_ (FR.out.mono fun j _ hj => .inr hj.1)
set_option maxRecDepth 100000 in
set_option maxHeartbeats 2000000 in
theorem do3_any (B sp sr N : Nat) (Op Or : Nat → Prop) (v : List Vt) (k d i tt now : Int) (X : Option Addr) (n c : Nat) (a f : Int) (w : World) (h : Both w B sp sr Op Or v) (hv : VFewN v N) (hN : N ≤ 3600) (hk : k % 5 = 3) (hk0 : 0 ≤ k ∧ k ≤ 255) :
    Calls Try.prog 19 #[.pointer (some ⟨sp, 0, none⟩), .pointer (some ⟨sr, 0, none⟩), actV k d i tt now X n c a f] w fun e w' => e = .returned (.bool true) ∧ Done w w' B sp sr Op Or N := by
  have H := Lib.hid h
  have HV := Lib.hid (hv.few (by omega))
  have HVN := Lib.hid hv
  have eq0 : (k % 5 == 0) = false := by rw [hk]; rfl
  have eq1 : (k % 5 == 1) = false := by rw [hk]; rfl
  have eq2 : (k % 5 == 2) = false := by rw [hk]; rfl
  have eq3 : (k % 5 == 3) = true := by rw [hk]; rfl
  obtain ⟨kl, kh⟩ := hk0
  obtain ⟨y, hy⟩ : ∃ y, k % 5 = y := ⟨_, rfl⟩
  clear h hv hk
  go_enter Try.func19, Try.ntmps19
  go_wp2_with fail
  refine (otherP_any d i _).mono ?_
  rintro _ w2 ⟨rfl, hf⟩
  have hF2 : Frm w w2 fun _ => False := ((Frm.refl w fun _ => False).alloc (.cells #[.int .u8 k, .int .i64 d, .int .i64 i, .int .i64 tt, .int .u64 now, .slice X n c, .int .u64 a, .int .u64 f] 52)).then_ hf
  have a0 := hf.cell (p := ⟨w.heap.size, 0, none⟩) (v := .int .u8 k) (by go_simp) id
  have a1 := hf.cell (p := ⟨w.heap.size, 1, none⟩) (v := .int .i64 d) (by go_simp) id
  have a2 := hf.cell (p := ⟨w.heap.size, 2, none⟩) (v := .int .i64 i) (by go_simp) id
  have a3 := hf.cell (p := ⟨w.heap.size, 3, none⟩) (v := .int .i64 tt) (by go_simp) id
  have a4 := hf.cell (p := ⟨w.heap.size, 4, none⟩) (v := .int .u64 now) (by go_simp) id
  have a5 := hf.cell (p := ⟨w.heap.size, 5, none⟩) (v := .slice X n c) (by go_simp) id
  have a6 := hf.cell (p := ⟨w.heap.size, 6, none⟩) (v := .int .u64 a) (by go_simp) id
  have a7 := hf.cell (p := ⟨w.heap.size, 7, none⟩) (v := .int .u64 f) (by go_simp) id
  have hlt2 : w.heap.size < w2.heap.size := by have := hf.size; simp at this; omega
  have hne2 : w.heap.size ≠ w2.heap.size := by omega
  clear hf
  go_upto_region 13 with fail
  refine at_world' ?_
  intro U hU
  have hFU : Frm w2 U fun _ => False := by rw [hU]; exact (Frm.refl _ _).alloc _
  have hst : DoSt w U B sp sr Op Or v w.heap.size w2.heap.size k d i tt now X n c a f := by
    refine ⟨⟨hFU.cell a0 id, hFU.cell a1 id, hFU.cell a2 id, hFU.cell a3 id, hFU.cell a4 id, hFU.cell a5 id, hFU.cell a6 id, hFU.cell a7 id, by rw [hU]; go_simp, by rw [hU]; go_simp⟩, ?_, ?_, H.out.dj, ?_, hF2.then_ hFU⟩
    · exact (H.out.p.sub fun j h1 h2 h3 => ⟨h3, h2⟩).new_ (hF2.then_ hFU)
    · exact (H.out.r.sub fun j h1 h2 h3 => ⟨h3, h2⟩).new_ (hF2.then_ hFU)
    · have h1 : w2.heap.size < U.heap.size := by rw [hU]; simp
      omega
  obtain ⟨ab, hab⟩ : ∃ x, w.heap.size = x := ⟨_, rfl⟩
  obtain ⟨pb, hpb⟩ : ∃ x, w2.heap.size = x := ⟨_, rfl⟩
  rw [hab, hpb] at hst ⊢
  have ST := Lib.hid hst
  obtain ⟨h1, h2, h3, h4⟩ := hst.lt
  obtain ⟨⟨c0, c1, c2, c3, c4, c5, c6, c7, p0, p1⟩, -, -, -, -, -⟩ := hst
  have HAB := Lib.hid hab
  clear hU hFU hF2 a0 a1 a2 a3 a4 a5 a6 a7 hlt2 hne2 hpb hab
  have D := Lib.hid ((Frm.refl U fun _ => False).drew)
  have hpl : (pls tt v).length ≤ 28000 := plsN_few tt v HV.out 7
  go_region_held3 (fun w' => w'.cell? ⟨ab, 0, none⟩ = some (.int .u8 k) ∧ w'.cell? ⟨ab, 1, none⟩ = some (.int .i64 d) ∧ w'.cell? ⟨ab, 2, none⟩ = some (.int .i64 i) ∧ w'.cell? ⟨ab, 3, none⟩ = some (.int .i64 tt) ∧ w'.cell? ⟨ab, 4, none⟩ = some (.int .u64 now) ∧ w'.cell? ⟨ab, 5, none⟩ = some (.slice X n c) ∧ w'.cell? ⟨ab, 6, none⟩ = some (.int .u64 a) ∧ w'.cell? ⟨ab, 7, none⟩ = some (.int .u64 f) ∧ w'.cell? ⟨pb, 0, none⟩ = some (.int .i64 d) ∧ w'.cell? ⟨pb, 1, none⟩ = some (.int .i64 i)) (first | assumption | go_keep | (refine ⟨?_, ?_, ?_, ?_, ?_, ?_, ?_, ?_, ?_, ?_⟩ <;> first | assumption | go_keep)) (first
    | (go_at_call 16; refine (places_v (ST.out.p.new_ D.out) HV.out tt).mono ?_; rintro _ w5 ⟨A1, m1, rfl, hS, hf⟩; have hm1 : m1 = (pls tt v).length := (by have := hS.len; rw [plc_len] at this; omega); subst hm1; have S1 := Lib.hid hS.rd; replace D := Lib.hid (D.out.then_ hf); clear hS hf; obtain ⟨c0, c1, c2, c3, c4, c5, c6, c7, p0, p1⟩ := ST.out.bx.new_ D.out)
    | (go_at_call 21; refine (rplaces_v (ST.out.r.new_ D.out) HV.out tt).mono ?_; rintro _ w6 ⟨A2, m2, c2', rfl, hS, hf⟩; have hm2 : m2 = (pls tt v).length := (by have := hS.len; rw [plc_len] at this; omega); subst hm2; have S2 := Lib.hid hS.rd; have S1' := Lib.hid (S1.out.new_ hf); replace D := Lib.hid (D.out.then_ hf); clear hS hf; obtain ⟨c0, c1, c2, c3, c4, c5, c6, c7, p0, p1⟩ := ST.out.bx.new_ D.out)
    | (go_at_call 20; refine (samePlaces_any A1 A2 _ c2' (pls tt v) _ S1'.out S2.out (by omega)).mono ?_; rintro _ w7 ⟨rfl, hf⟩; replace D := Lib.hid (D.out.then_ hf); clear hf; obtain ⟨c0, c1, c2, c3, c4, c5, c6, c7, p0, p1⟩ := ST.out.bx.new_ D.out))
  all_goals
    go_wp2_with fail
    go_ret
    exact ⟨rfl, ⟨⟨v, _, _, ⟨ST.out.p.new_ D.out, ST.out.r.new_ D.out, fun j h1 h2 => ST.out.dj j h1.1 h2.1⟩, HVN.out.le (by omega), fun j hj => .inl hj.1, fun j hj => .inl hj.1⟩, (ST.out.fr.then_ D.out).none_ _⟩⟩
set_option maxRecDepth 100000 in
set_option maxHeartbeats 2000000 in
theorem do4_any (B sp sr N : Nat) (Op Or : Nat → Prop) (v : List Vt) (k d i tt now : Int) (X : Option Addr) (n c : Nat) (a f : Int) (w : World) (h : Both w B sp sr Op Or v) (hv : VFewN v N) (hN : N ≤ 3600) (hk : k % 5 = 4) (hk0 : 0 ≤ k ∧ k ≤ 255) :
    Calls Try.prog 19 #[.pointer (some ⟨sp, 0, none⟩), .pointer (some ⟨sr, 0, none⟩), actV k d i tt now X n c a f] w fun e w' => e = .returned (.bool true) ∧ Done w w' B sp sr Op Or N := by
  have H := Lib.hid h
  have HV := Lib.hid (hv.few (by omega))
  have HVN := Lib.hid hv
  obtain ⟨q, hq⟩ : ∃ q, vq v d i = q := ⟨_, rfl⟩
  obtain ⟨⟨ta, tf⟩, htm⟩ : ∃ x, vtm v d i = x := ⟨_, rfl⟩
  obtain ⟨m, hm⟩ : ∃ m, q.length = m := ⟨_, rfl⟩
  have hm4 : (m : Int) ≤ 4000 := by have h1 := (hv.few (show N ≤ 4000 by omega)) d; have : (vq v d i).length ≤ 4000 := (by unfold vq; cases hk : vk v d i with | none => simp | some k => exact vk_few (hv.few (by omega)) hk); rw [hq, hm] at this; omega
  obtain ⟨bb, hbb⟩ : ∃ b, (vget v tt).isSome = b := ⟨_, rfl⟩
  have HQ := Lib.hid (And.intro hq (And.intro htm (And.intro hm hbb)))
  have nbb : (bb != bb) = false := by simp
  have nmm : ((m : Int) != (m : Int)) = false := by simp
  have e96 := neq96
  have eg96 := eqg96
  clear hq htm hm hbb
  have eq0 : (k % 5 == 0) = false := by rw [hk]; rfl
  have eq1 : (k % 5 == 1) = false := by rw [hk]; rfl
  have eq2 : (k % 5 == 2) = false := by rw [hk]; rfl
  have eq3 : (k % 5 == 3) = false := by rw [hk]; rfl
  obtain ⟨kl, kh⟩ := hk0
  obtain ⟨y, hy⟩ : ∃ y, k % 5 = y := ⟨_, rfl⟩
  clear h hv hk
  go_enter Try.func19, Try.ntmps19
  go_wp2_with fail
  refine (otherP_any d i _).mono ?_
  rintro _ w2 ⟨rfl, hf⟩
  have hF2 : Frm w w2 fun _ => False := ((Frm.refl w fun _ => False).alloc (.cells #[.int .u8 k, .int .i64 d, .int .i64 i, .int .i64 tt, .int .u64 now, .slice X n c, .int .u64 a, .int .u64 f] 52)).then_ hf
  have a0 := hf.cell (p := ⟨w.heap.size, 0, none⟩) (v := .int .u8 k) (by go_simp) id
  have a1 := hf.cell (p := ⟨w.heap.size, 1, none⟩) (v := .int .i64 d) (by go_simp) id
  have a2 := hf.cell (p := ⟨w.heap.size, 2, none⟩) (v := .int .i64 i) (by go_simp) id
  have a3 := hf.cell (p := ⟨w.heap.size, 3, none⟩) (v := .int .i64 tt) (by go_simp) id
  have a4 := hf.cell (p := ⟨w.heap.size, 4, none⟩) (v := .int .u64 now) (by go_simp) id
  have a5 := hf.cell (p := ⟨w.heap.size, 5, none⟩) (v := .slice X n c) (by go_simp) id
  have a6 := hf.cell (p := ⟨w.heap.size, 6, none⟩) (v := .int .u64 a) (by go_simp) id
  have a7 := hf.cell (p := ⟨w.heap.size, 7, none⟩) (v := .int .u64 f) (by go_simp) id
  have hlt2 : w.heap.size < w2.heap.size := by have := hf.size; simp at this; omega
  have hne2 : w.heap.size ≠ w2.heap.size := by omega
  clear hf
  go_upto_region 14 with fail
  refine at_world' ?_
  intro U hU
  have hFU : Frm w2 U fun _ => False := by rw [hU]; exact (Frm.refl _ _).alloc _
  have hst : DoSt w U B sp sr Op Or v w.heap.size w2.heap.size k d i tt now X n c a f := by
    refine ⟨⟨hFU.cell a0 id, hFU.cell a1 id, hFU.cell a2 id, hFU.cell a3 id, hFU.cell a4 id, hFU.cell a5 id, hFU.cell a6 id, hFU.cell a7 id, by rw [hU]; go_simp, by rw [hU]; go_simp⟩, ?_, ?_, H.out.dj, ?_, hF2.then_ hFU⟩
    · exact (H.out.p.sub fun j h1 h2 h3 => ⟨h3, h2⟩).new_ (hF2.then_ hFU)
    · exact (H.out.r.sub fun j h1 h2 h3 => ⟨h3, h2⟩).new_ (hF2.then_ hFU)
    · have h1 : w2.heap.size < U.heap.size := by rw [hU]; simp
      omega
  obtain ⟨ab, hab⟩ : ∃ x, w.heap.size = x := ⟨_, rfl⟩
  obtain ⟨pb, hpb⟩ : ∃ x, w2.heap.size = x := ⟨_, rfl⟩
  rw [hab, hpb] at hst ⊢
  have ST := Lib.hid hst
  obtain ⟨h1, h2, h3, h4⟩ := hst.lt
  obtain ⟨⟨c0, c1, c2, c3, c4, c5, c6, c7, p0, p1⟩, -, -, -, -, -⟩ := hst
  have HAB := Lib.hid hab
  clear hU hFU hF2 a0 a1 a2 a3 a4 a5 a6 a7 hlt2 hne2 hpb hab
  have HQP := Lib.hid (fun V (hf : Frm U V fun _ => False) => show Calls Try.prog 25 #[.pointer (some ⟨sp, 0, none⟩), plV d i] V fun e w' => ∃ A', e = .returned (.slice A' m m) ∧ Sl w' V.heap.size 3 A' m m (ens q) ∧ Frm V w' fun _ => False by have := queue_v (ST.out.p.new_ hf) HV.out d i; rw [HQ.out.1, HQ.out.2.2.1] at this; exact this)
  go_wp2_with (go_at_call 25; refine (HQP.out _ (Frm.refl _ _)).mono ?_; rintro _ w4 ⟨A10, rfl, hS, hf⟩; have S10 := Lib.hid hS; have F4 := Lib.hid hf; clear hS hf; obtain ⟨c0, c1, c2, c3, c4, c5, c6, c7, p0, p1⟩ := ST.out.bx.new_ F4.out)
  have D := Lib.hid ((Frm.refl w4 fun _ => False).drew)
  go_region_held3 (fun w' => w'.cell? ⟨ab, 0, none⟩ = some (.int .u8 k) ∧ w'.cell? ⟨ab, 1, none⟩ = some (.int .i64 d) ∧ w'.cell? ⟨ab, 2, none⟩ = some (.int .i64 i) ∧ w'.cell? ⟨ab, 3, none⟩ = some (.int .i64 tt) ∧ w'.cell? ⟨ab, 4, none⟩ = some (.int .u64 now) ∧ w'.cell? ⟨ab, 5, none⟩ = some (.slice X n c) ∧ w'.cell? ⟨ab, 6, none⟩ = some (.int .u64 a) ∧ w'.cell? ⟨ab, 7, none⟩ = some (.int .u64 f) ∧ w'.cell? ⟨pb, 0, none⟩ = some (.int .i64 d) ∧ w'.cell? ⟨pb, 1, none⟩ = some (.int .i64 i)) (first | assumption | go_keep | (refine ⟨?_, ?_, ?_, ?_, ?_, ?_, ?_, ?_, ?_, ?_⟩ <;> first | assumption | go_keep)) (first
    | (go_at_call 43; refine (rqueue_v (ST.out.r.new_ (F4.out.then_ D.out)) d i).mono ?_; rw [HQ.out.1, HQ.out.2.2.1]; rintro _ w5 ⟨A2, c2', rfl, hr2, hf⟩; have RB := Lib.hid hr2; replace D := Lib.hid (D.out.then_ hf); have RA := Lib.hid (S10.out.new_ D.out).rd; clear hr2 hf; obtain ⟨c0, c1, c2, c3, c4, c5, c6, c7, p0, p1⟩ := ST.out.bx.new_ (F4.out.then_ D.out))
    | (go_at_call 42; refine (same_big A10 A2 m m c2' q _ RA.out RB.out hm4).mono ?_; rintro _ w7 ⟨rfl, hf⟩; replace D := Lib.hid (D.out.then_ hf); clear hf; obtain ⟨c0, c1, c2, c3, c4, c5, c6, c7, p0, p1⟩ := ST.out.bx.new_ (F4.out.then_ D.out))
    | (go_at_call 12; refine (timer_v (ST.out.p.new_ (F4.out.then_ D.out)) d i).mono ?_; rw [HQ.out.2.1]; rintro _ w7 ⟨rfl, hf⟩; replace D := Lib.hid (D.out.then_ hf); clear hf; obtain ⟨c0, c1, c2, c3, c4, c5, c6, c7, p0, p1⟩ := ST.out.bx.new_ (F4.out.then_ D.out))
    | (go_at_call 40; refine (otherT_any ta tf _).mono ?_; rintro _ w7 ⟨rfl, hf⟩; replace D := Lib.hid (D.out.then_ hf); clear hf; obtain ⟨c0, c1, c2, c3, c4, c5, c6, c7, p0, p1⟩ := ST.out.bx.new_ (F4.out.then_ D.out))
    | (go_at_call 44; refine (rtimer_v (ST.out.r.new_ (F4.out.then_ D.out)) d i).mono ?_; rw [HQ.out.2.1]; rintro _ w7 ⟨rfl, hf⟩; replace D := Lib.hid (D.out.then_ hf); clear hf; obtain ⟨c0, c1, c2, c3, c4, c5, c6, c7, p0, p1⟩ := ST.out.bx.new_ (F4.out.then_ D.out))
    | (go_at_call 10; refine (has_v (ST.out.p.new_ (F4.out.then_ D.out)) tt).mono ?_; rw [HQ.out.2.2.2]; rintro _ _ ⟨rfl, rfl⟩)
    | (go_at_call 45; refine (rhas_v (ST.out.r.new_ (F4.out.then_ D.out)) tt).mono ?_; rw [HQ.out.2.2.2]; rintro _ _ ⟨rfl, rfl⟩))
  all_goals
    go_wp2_with (go_at_call 36; refine (spoil_big U.heap.size A10 m m (ens q) _ (S10.out.new_ D.out) hm4).mono ?_; rintro _ w8 ⟨rfl, hf⟩; have hA : Hid (∀ j, blk A10 j → U.heap.size ≤ j) := Lib.hid (fun j hj => (S10.out.ge hj).1); have P8 := Lib.hid ((ST.out.p.new_ (F4.out.then_ D.out)).frm hf fun j q1 q2 => by have := hA.out j q2; have := ST.out.fr.size; omega); have R8 := Lib.hid ((ST.out.r.new_ (F4.out.then_ D.out)).frm hf fun j q1 q2 => by have := hA.out j q2; have := ST.out.fr.size; omega); have BX8 := Lib.hid ((ST.out.bx.new_ (F4.out.then_ D.out)).frm hf (fun h => by have := hA.out _ h; omega) (fun h => by have := hA.out _ h; omega)); have FT8 := Lib.hid ((ST.out.fr.then_ (F4.out.then_ D.out)).fresh hf fun j q1 => by have := hA.out j q1; have := ST.out.fr.size; omega); clear hf D; obtain ⟨c0, c1, c2, c3, c4, c5, c6, c7, p0, p1⟩ := BX8.out)
    have D := Lib.hid ((Frm.refl w8 fun _ => False).drew)
    go_region_held3 (fun w' => w'.cell? ⟨ab, 0, none⟩ = some (.int .u8 k) ∧ w'.cell? ⟨ab, 1, none⟩ = some (.int .i64 d) ∧ w'.cell? ⟨ab, 2, none⟩ = some (.int .i64 i) ∧ w'.cell? ⟨ab, 3, none⟩ = some (.int .i64 tt) ∧ w'.cell? ⟨ab, 4, none⟩ = some (.int .u64 now) ∧ w'.cell? ⟨ab, 5, none⟩ = some (.slice X n c) ∧ w'.cell? ⟨ab, 6, none⟩ = some (.int .u64 a) ∧ w'.cell? ⟨ab, 7, none⟩ = some (.int .u64 f) ∧ w'.cell? ⟨pb, 0, none⟩ = some (.int .i64 d) ∧ w'.cell? ⟨pb, 1, none⟩ = some (.int .i64 i)) (first | assumption | go_keep | (refine ⟨?_, ?_, ?_, ?_, ?_, ?_, ?_, ?_, ?_, ?_⟩ <;> first | assumption | go_keep)) (first
      | (go_at_call 25; refine (queue_v (P8.out.new_ D.out) HV.out d i).mono ?_; rw [HQ.out.1, HQ.out.2.2.1]; rintro _ w9 ⟨A12, rfl, hS, hf⟩; have SA := Lib.hid hS.rd; replace D := Lib.hid (D.out.then_ hf); clear hS hf; obtain ⟨c0, c1, c2, c3, c4, c5, c6, c7, p0, p1⟩ := BX8.out.new_ D.out)
      | (go_at_call 43; refine (rqueue_v (R8.out.new_ D.out) d i).mono ?_; rw [HQ.out.1, HQ.out.2.2.1]; rintro _ w10 ⟨A13, c13, rfl, hr2, hf⟩; have SB := Lib.hid hr2; have SC := Lib.hid (SA.out.new_ hf); replace D := Lib.hid (D.out.then_ hf); clear hr2 hf; obtain ⟨c0, c1, c2, c3, c4, c5, c6, c7, p0, p1⟩ := BX8.out.new_ D.out)
      | (go_at_call 42; refine (same_big A12 A13 m m c13 q _ SC.out SB.out hm4).mono ?_; rintro _ w11 ⟨rfl, hf⟩; replace D := Lib.hid (D.out.then_ hf); clear hf; obtain ⟨c0, c1, c2, c3, c4, c5, c6, c7, p0, p1⟩ := BX8.out.new_ D.out))
    all_goals
      go_wp2_with fail
      go_ret
      exact ⟨rfl, ⟨⟨v, _, _, ⟨P8.out.new_ D.out, R8.out.new_ D.out, fun j h1 h2 => ST.out.dj j h1.1 h2.1⟩, HVN.out.le (by omega), fun j hj => .inl hj.1, fun j hj => .inl hj.1⟩, (FT8.out.then_ D.out).none_ _⟩⟩
end Go.Proofs.Ytajcijocjbakbaa
