import Derived.Test.YtaenclbbiodhfaaLnL
import Derived.Test.YtaenclbbiodhfaaCkE
import Derived.BigQuiet
namespace Go.Proofs.Ytaenclbbiodhfaa.Ask
open Go.RowKit Go.Proofs.Ytaenclbbiodhfaa

theorem gfrm {W : World} (F : Grown W) : Frm W F.1 fun _ => False := F.2
/-- What the law asks of two lists that hold the same entries. -/
structure Asks (w1 : World) (A Am : Option Addr) (n c cm : Nat) (key at_ : Int) (z1 z2 : Int) (hb : Bool) : Prop where
  f : ∀ w', Frm w1 w' (fun _ => False) → Calls Try.prog 17 #[.slice A n c, .int .u32 key] w' fun e w'' => e = .returned (.int .i64 z1) ∧ Frm w' w'' fun _ => False
  rf : ∀ w', Frm w1 w' (fun _ => False) → Calls Try.prog 18 #[.slice Am n cm, .int .u32 key] w' fun e w'' => e = .returned (.int .i64 z1) ∧ w' = w''
  h : ∀ w', Frm w1 w' (fun _ => False) → Calls Try.prog 19 #[.slice A n c, .int .u32 key] w' fun e w'' => e = .returned (.bool hb) ∧ Frm w' w'' fun _ => False
  rh : ∀ w', Frm w1 w' (fun _ => False) → Calls Try.prog 20 #[.slice Am n cm, .int .u32 key] w' fun e w'' => e = .returned (.bool hb) ∧ w' = w''
  o : ∀ w', Frm w1 w' (fun _ => False) → Calls Try.prog 21 #[.slice A n c, .int .i64 at_] w' fun e w'' => e = .returned (.int .i64 z2) ∧ Frm w' w'' fun _ => False
  ro : ∀ w', Frm w1 w' (fun _ => False) → Calls Try.prog 22 #[.slice Am n cm, .int .i64 at_] w' fun e w'' => e = .returned (.int .i64 z2) ∧ w' = w''
theorem asks (w1 : World) (A Am : Option Addr) (n c cm : Nat) (key at_ : Int) (xs : List En) (hr : Rd w1 w1.heap.size 3 A n (ens xs)) (hm : Rd w1 w1.heap.size 3 Am n (ens xs)) (hn : (n : Int) ≤ 1000) :
    Asks w1 A Am n c cm key at_ (fst (fun x => x.k == key) xs) (fst (fun x => x.t == at_) xs) (decide (0 ≤ fst (fun x => x.k == key) xs)) :=
  ⟨fun w' hf => first_any A n c key xs w' (hr.new_ hf) hn, fun w' hf => rfirst_any Am n cm key xs w' (hm.new_ hf) hn, fun w' hf => has_any A n c key xs w' (hr.new_ hf) hn,
    fun w' hf => rhas_any Am n cm key xs w' (hm.new_ hf) hn, fun w' hf => of_any A n c at_ xs w' (hr.new_ hf) hn, fun w' hf => rof_any Am n cm at_ xs w' (hm.new_ hf) hn⟩
structure Cuts (w1 : World) (A Am : Option Addr) (n c cm : Nat) (at_ : Int) (x : En) (zs : List En) (k : Nat) (b : Bool) : Prop where
  c : ∀ w', Frm w1 w' (fun _ => False) → Calls Try.prog 23 #[.slice A n c, .int .i64 at_] w' fun e w'' => ∃ An, e = .returned (.tuple #[En.val x, .slice An k k, .bool b]) ∧ Sl w'' w'.heap.size 3 An k k (ens zs) ∧ Frm w' w'' fun _ => False
  rc : ∀ w', Frm w1 w' (fun _ => False) → Calls Try.prog 24 #[.slice Am n cm, .int .i64 at_] w' fun e w'' => ∃ An cn, e = .returned (.tuple #[En.val x, .slice An k cn, .bool b]) ∧ Sl w'' w'.heap.size 3 An k cn (ens zs) ∧ Frm w' w'' fun _ => False
theorem cuts (w1 : World) (A Am : Option Addr) (n c cm : Nat) (at_ : Int) (xs : List En) (hr : Rd w1 w1.heap.size 3 A n (ens xs)) (hm : Rd w1 w1.heap.size 3 Am n (ens xs)) (hn : (n : Int) ≤ 1000) :
    Cuts w1 A Am n c cm at_ (cutX at_ xs) (cutLeft at_ xs xs.length) (cutLeft at_ xs xs.length).length (decide (0 ≤ at_) && decide (at_ < (n : Int))) :=
  ⟨fun w' hf => cut_any A n c at_ xs w' (hr.new_ hf) hn, fun w' hf => rcut_any Am n cm at_ xs w' (hm.new_ hf) hn⟩
set_option maxRecDepth 100000 in
set_option maxHeartbeats 4000000 in
theorem walk (A : Option Addr) (n c : Nat) (key at_ : Int) (xs : List En) (w : World) (hr : Rd w w.heap.size 3 A n (ens xs)) (hrl : (n : Int) ≤ 9223372036854775807) (hA : ∀ j, blk A j → j < w.heap.size) :
    Calls Try.prog 4 #[.slice A n c, .int .u32 key, .int .i64 at_] w fun e w' => e = .returned (.bool true) ∧ Frm w w' fun _ => False := by
  by_cases h100 : (100 : Int) < (n : Int)
  · go_enter Try.func4, Try.ntmps4
    go_wp2_with (go_at_call 14; refine (llives_any _).mono ?_; rintro e w' ⟨rfl, hf⟩)
    go_ret
    exact ⟨rfl, hf⟩
  have h100' : (n : Int) ≤ 100 := by omega
  have hn : (n : Int) ≤ 1000 := by omega
  have hO := others_any A n c xs w hr hn
  have HO := Lib.hid hO
  have HR := Lib.hid hr
  have HN := Lib.hid hn
  have HA := Lib.hid hA
  clear hO hr hA h100 hrl hn
  have n35 := neq47
  have g35 := eqg47
  go_enter Try.func4, Try.ntmps4
  go_wp2_with fail
  refine HO.out.mono ?_
  rintro e w1 ⟨Am, cm, rfl, hS, hF⟩
  have F0 := Lib.hid hF
  have SM := Lib.hid hS
  have ha := asks w1 A Am n c cm key at_ xs (HR.out.new_ hF) hS.rd HN.out
  have hc := cuts w1 A Am n c cm at_ xs (HR.out.new_ hF) hS.rd HN.out
  have hzl : (cutLeft at_ xs xs.length).length ≤ n := by
    have := sel_le (fun i => !(cutSo at_ i)) xs xs.length
    have := (Rd.ens HR.out).1
    unfold cutLeft; omega
  obtain ⟨z1, hz1⟩ : ∃ z, fst (fun x => x.k == key) xs = z := ⟨_, rfl⟩
  obtain ⟨z2, hz2⟩ : ∃ z, fst (fun x => x.t == at_) xs = z := ⟨_, rfl⟩
  obtain ⟨x, hx⟩ : ∃ z, cutX at_ xs = z := ⟨_, rfl⟩
  obtain ⟨zs, hzs⟩ : ∃ z, cutLeft at_ xs xs.length = z := ⟨_, rfl⟩
  obtain ⟨k, hk⟩ : ∃ k, zs.length = k := ⟨_, rfl⟩
  obtain ⟨b, hb⟩ : ∃ b, (decide (0 ≤ at_) && decide (at_ < (n : Int))) = b := ⟨_, rfl⟩
  rw [hz1, hz2] at ha
  obtain ⟨h, hh⟩ : ∃ b, (decide (0 ≤ z1)) = b := ⟨_, rfl⟩
  rw [hh] at ha
  rw [hx, hzs, hb, hk] at hc
  rw [hzs, hk] at hzl
  have QA := Lib.hid ha
  have QC := Lib.hid hc
  have HK := Lib.hid hzl
  clear ha hc hS hF hz1 hz2 hx hzs hb hh hk hzl
  have F := Lib.hid (Frm.refl w1 fun _ => False)
  go_wp2_with (first
    | (go_at_call 17; refine (QA.out.f _ F.out).mono ?_; rintro e w2 ⟨rfl, hf⟩; replace F := Lib.hid (F.out.then_ hf); clear hf)
    | (go_at_call 18; refine (QA.out.rf _ F.out).mono ?_; rintro e w2 ⟨rfl, rfl⟩)
    | (go_at_call 19; refine (QA.out.h _ F.out).mono ?_; rintro e w2 ⟨rfl, hf⟩; replace F := Lib.hid (F.out.then_ hf); clear hf)
    | (go_at_call 20; refine (QA.out.rh _ F.out).mono ?_; rintro e w2 ⟨rfl, rfl⟩)
    | (go_at_call 21; refine (QA.out.o _ F.out).mono ?_; rintro e w2 ⟨rfl, hf⟩; replace F := Lib.hid (F.out.then_ hf); clear hf)
    | (go_at_call 22; refine (QA.out.ro _ F.out).mono ?_; rintro e w2 ⟨rfl, rfl⟩))
  have LB := Lib.hid F.out.size
  refine (QC.out.c _ F.out).mono ?_
  rintro e w3 ⟨Al, rfl, hs, hf⟩
  have SL := Lib.hid hs
  replace F := Lib.hid (F.out.then_ hf)
  clear hs hf
  have E3 := Lib.hid (box3 w3 35 x)
  go_wp2_with fail
  refine (QC.out.rc _ (F.out.then_ ((Frm.refl _ _).alloc _))).mono ?_
  rintro e w4 ⟨Ar, cr, rfl, hs, hf⟩
  have FE := Lib.hid (((Frm.refl w3 _).alloc (.cells #[.int .i64 x.t, .int .u32 x.k, .int .u64 x.tok] 35)).then_ hf)
  have SR := Lib.hid hs
  replace F := Lib.hid (F.out.then_ FE.out)
  replace SL := Lib.hid (SL.out.new_ FE.out)
  replace E3 := Lib.hid (E3.out.frm hf id)
  clear hs hf FE
  go_wp2_with fail
  refine at_world ?_
  intro W5 hW5
  have F5 : Hid (Frm w4 W5 fun _ => False) := by rw [hW5]; exact (Frm.refl _ _).alloc _
  obtain ⟨e0, e1, e2⟩ := E3.out.frm F5.out id
  have B5 : Box3 W5 w4.heap.size x := by rw [hW5]; exact box3 w4 47 x
  obtain ⟨d0, d1, d2⟩ := B5
  replace F := Lib.hid (F.out.then_ F5.out)
  replace SL := Lib.hid (SL.out.new_ F5.out)
  replace SR := Lib.hid (SR.out.new_ F5.out)
  have HN5 : Hid ((k : Int) ≤ 1000) := by have := HN.out; have := HK.out; show _ ≤ _; omega
  replace e0 := Grown.cell e0
  replace e1 := Grown.cell e1
  replace e2 := Grown.cell e2
  replace d0 := Grown.cell d0
  replace d1 := Grown.cell d1
  replace d2 := Grown.cell d2
  clear hW5 F5 E3
  refine wp_region_grown W5 (Frm.refl _ _) (by kernel_rfl) (by kernel_rfl) ?_
  repeat (go_big_quiet_step (first
    | (go_at_call 25; refine Calls.grown_of (other_any x _))
    | (go_at_call 26; refine Calls.grown_of (same_ents Al Ar k k cr zs _ (SL.out.rd.new_ (gfrm _)) (SR.out.rd.new_ (gfrm _)) HN5.out))
    | (go_at_call 27; refine Calls.grown_same (tight_any Al k _))))
  refine wpQuiet_nil ?_
  intro wq hq
  replace F := Lib.hid (F.out.then_ hq)
  replace SL := Lib.hid (SL.out.new_ hq)
  clear hq e0 e1 e2 d0 d1 d2 SR
  go_wp2_with fail
  refine (spoil_any _ Al k k (ens zs) wq SL.out HN5.out).mono ?_
  rintro e w6 ⟨rfl, hf⟩
  have F6 : Frm w1 w6 fun _ => False := F.out.fresh hf (fun j hj => Nat.le_trans LB.out (SL.out.ge hj).1)
  replace F := Lib.hid F6
  clear hf SL F6
  go_wp2_with (first
    | (go_at_call 26; refine (same_ents A Am n c cm xs _ (HR.out.new_ (F0.out.then_ F.out)) (SM.out.rd.new_ F.out) HN.out).mono ?_; rintro e w7 ⟨rfl, hf⟩; replace F := Lib.hid (F.out.then_ hf); clear hf)
    | (go_at_call 14; refine (llives_any _).mono ?_; rintro e w8 ⟨rfl, hf⟩; replace F := Lib.hid (F.out.then_ hf); clear hf))
  go_ret
  exact ⟨rfl, F0.out.then_ F.out⟩
end Go.Proofs.Ytaenclbbiodhfaa.Ask
