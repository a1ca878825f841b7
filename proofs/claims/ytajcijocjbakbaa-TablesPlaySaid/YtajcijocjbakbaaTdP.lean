import Derived.Test.YtajcijocjbakbaaTdN
import Derived.Test.YtajcijocjbakbaaTdM
import Derived.Test.YtajcijocjbakbaaTbT
namespace Go.Proofs.Ytajcijocjbakbaa
open Go.RowKit

/-- An act on both sets. -/
theorem do_any (B sp sr N : Nat) (Op Or : Nat → Prop) (v : List Vt) (x : Ac) (w : World) (h : Both w B sp sr Op Or v) (hv : VFewN v N) (hN : N ≤ 3600) (hk0 : 0 ≤ x.k ∧ x.k ≤ 255) (hr : Rd w w.heap.size 3 x.X x.n (ens x.l)) (hn : x.n ≤ 60) (hX : 0 < x.n → ∀ j, blk x.X j → ¬ Op j ∧ ¬ Or j) (hok : ∀ e ∈ x.l, EnOk e) :
    Calls Try.prog 19 #[.pointer (some ⟨sp, 0, none⟩), .pointer (some ⟨sr, 0, none⟩), actV x.k x.d x.i x.to_ x.now x.X x.n x.c x.a x.f] w fun e w' => e = .returned (.bool true) ∧ Done w w' B sp sr Op Or N := by
  have hk : x.k % 5 = 0 ∨ x.k % 5 = 1 ∨ x.k % 5 = 2 ∨ x.k % 5 = 3 ∨ x.k % 5 = 4 := by omega
  rcases hk with hk | hk | hk | hk | hk
  · exact do0_any B sp sr N Op Or v x.k x.d x.i x.to_ x.now x.X x.n x.c x.a x.f w h hv hN hk hk0 x.l hr hn hX hok
  · exact do1_any B sp sr N Op Or v x.k x.d x.i x.to_ x.now x.X x.n x.c x.a x.f w h hv hN hk hk0
  · exact do2_any B sp sr N Op Or v x.k x.d x.i x.to_ x.now x.X x.n x.c x.a x.f w h hv hN hk hk0
  · exact do3_any B sp sr N Op Or v x.k x.d x.i x.to_ x.now x.X x.n x.c x.a x.f w h hv hN hk hk0
  · exact do4_any B sp sr N Op Or v x.k x.d x.i x.to_ x.now x.X x.n x.c x.a x.f w h hv hN hk hk0
set_option maxRecDepth 100000 in
theorem play_long (now : Int) (A : Option Addr) (n c : Nat) (w : World) (hn : 60 < n) :
    Calls Try.prog 4 #[.int .u64 now, .slice A n c] w fun e w' => e = .returned (.bool true) ∧ Frm w w' fun _ => False := by
  have h1 : (60 : Int) < (n : Int) := by omega
  have h2 : decide ((60 : Int) < (n : Int)) = true := by rw [decide_eq_true_eq]; exact h1
  go_enter Try.func4, Try.ntmps4
  go_wp2_with (go_at_call 7; refine (lives_any _).mono ?_; rintro _ w' ⟨rfl, hf⟩; have HL2 := Lib.hid hf; clear hf)
  go_ret
  exact ⟨rfl, HL2.out⟩
set_option maxRecDepth 100000 in
set_option maxHeartbeats 2000000 in
theorem play_any (now : Int) (A : Option Addr) (n c : Nat) (l : List Ac) (w : World) (hr : Rd w w.heap.size 8 A n (l.flatMap Ac.V)) (hok : ∀ x ∈ l, AcOk w x) (hn : n ≤ 60) :
    Calls Try.prog 4 #[.int .u64 now, .slice A n c] w fun e w' => e = .returned (.bool true) ∧ Frm w w' fun _ => False := by
  have h1 : ¬ (60 : Int) < (n : Int) := by omega
  have h2 : decide ((60 : Int) < (n : Int)) = false := by rw [decide_eq_false_iff_not]; exact h1
  have HR := Lib.hid hr
  have HOK := Lib.hid hok
  have hl : n = l.length := (Rd.rows Ac.len (by decide) hr).1
  have HL := Lib.hid hl
  clear hr hok hl
  go_enter Try.func4, Try.ntmps4
  go_wp2_with fail
  refine (new_v now _).mono ?_
  rintro _ w1 ⟨sp, rfl, hV, hf⟩
  have V1 := Lib.hid (hV.sub (O' := fun j => w.heap.size ≤ j ∧ j < w1.heap.size) (fun j q1 q2 _ => ⟨q1, q2⟩))
  have F1 := Lib.hid hf
  clear hV hf
  go_wp2_with fail
  refine (rnew_v now _).mono ?_
  rintro _ w2 ⟨sr, rfl, hV, hf⟩
  have B2 : Hid (Both w2 w.heap.size sp sr (fun j => w.heap.size ≤ j ∧ j < w1.heap.size) (fun j => w1.heap.size ≤ j) (vnew now)) := by
    refine Lib.hid ⟨V1.out.new_ hf, ?_, fun j q1 q2 => by omega⟩
    obtain ⟨T, hT, hO⟩ := hV.ex
    refine ⟨T, ?_, hO⟩
    have hB := F1.out.size
    exact ⟨hT.cell, hT.free, ⟨Nat.le_trans hB hT.low.1, hT.low.2⟩, fun d hd => (hT.q d hd).mono hB, fun d hd => (hT.t d hd).mono hB, hT.n, hT.r, fun d hd x hx j hj => ⟨Nat.le_trans hB (hT.rb d hd x hx j hj).1, (hT.rb d hd x hx j hj).2⟩, hT.ds, hT.dq, hT.dt, hT.ok⟩
  have F2 := Lib.hid (F1.out.then_ hf)
  have HW1 := Lib.hid F1.out.size
  clear hV hf V1 F1
  go_wp2_with fail
  go_loopw [7] (fun i wr => ∃ (k : Nat) (Op Or : Nat → Prop) (v : List Vt), i = .int .i64 k ∧ k ≤ n ∧ Both wr w.heap.size sp sr Op Or v ∧ VFewN v (k * 60) ∧ (∀ j, Op j → w.heap.size ≤ j) ∧ (∀ j, Or j → w.heap.size ≤ j) ∧ Frm w wr fun _ => False) (fun i _ => n - (intOf i).toNat)
  case atStart => exact ⟨0, _, _, _, rfl, Nat.zero_le _, B2.out, (VFewN.new_ now).le (by omega), fun j hj => hj.1, fun j hj => by have := HW1.out; omega, F2.out⟩
  case round =>
    obtain ⟨k, Op, Or, v, rfl, hk, hB, hv, hop, hor, hF⟩ := hrel
    have BB := Lib.hid hB
    have VN := Lib.hid hv
    have F := Lib.hid hF
    have HOP := Lib.hid (And.intro hop hor)
    clear hB hv hop hor hF
    by_cases hlk : k < n
    · have k0 : (0 : Int) ≤ (k : Int) := by omega
      have k1 : (k : Int) < (n : Int) := by omega
      have hkl : k < l.length := by have := HL.out; omega
      obtain ⟨x, hx⟩ : ∃ x, l[k] = x := ⟨_, rfl⟩
      have hxok := HOK.out x (by rw [← hx]; exact List.getElem_mem hkl)
      obtain ⟨-, hc⟩ := Rd.rows Ac.len (by decide) (HR.out.new_ F.out)
      obtain ⟨g, o, rfl, -, cell⟩ := hc (by omega)
      have c0 := cell k hkl 0 (.int .u8 x.k) (by rw [hx]; rfl)
      have c1 := cell k hkl 1 (.int .i64 x.d) (by rw [hx]; rfl)
      have c2 := cell k hkl 2 (.int .i64 x.i) (by rw [hx]; rfl)
      have c3 := cell k hkl 3 (.int .i64 x.to_) (by rw [hx]; rfl)
      have c4 := cell k hkl 4 (.int .u64 x.now) (by rw [hx]; rfl)
      have c5 := cell k hkl 5 (.slice x.X x.n x.c) (by rw [hx]; rfl)
      have c6 := cell k hkl 6 (.int .u64 x.a) (by rw [hx]; rfl)
      have c7 := cell k hkl 7 (.int .u64 x.f) (by rw [hx]; rfl)
      rw [Nat.add_zero] at c0
      have HXO := Lib.hid hxok
      clear hc cell hx hxok
      obtain ⟨xn, hxn⟩ : ∃ m, x.n = m := ⟨_, rfl⟩
      by_cases h60 : xn ≤ 60
      · have g1 : ¬ (60 : Int) < (xn : Int) := by omega
        have g2 : decide ((60 : Int) < (xn : Int)) = false := by rw [decide_eq_false_iff_not]; exact g1
        have HDO := Lib.hid (do_any w.heap.size sp sr (k * 60) Op Or v x wr BB.out VN.out (by omega) HXO.out.k (HXO.out.rd.new_ F.out) (by omega) (fun h0 j hj => by
          obtain ⟨g', o', e', hlt, _⟩ := (Rd.ens HXO.out.rd).2 h0
          rw [e', blk_some] at hj
          subst hj
          exact ⟨fun hh => by have := HOP.out.1 _ hh; omega, fun hh => by have := HOP.out.2 _ hh; omega⟩) HXO.out.ok)
        rw [hxn] at c5 HDO
        have hkm : ((k : Int) % 5) = ((k % 5 : Nat) : Int) := by omega
        have HKE := Lib.hid hkm
        clear hxn hkm
        go_wp2_with fail
        refine HDO.out.mono ?_
        rintro _ w3 ⟨rfl, ⟨v', Op', Or', hB', hv', hop', hor'⟩, hf⟩
        have B3 := Lib.hid hB'
        have V3 := Lib.hid hv'
        have F3 := Lib.hid (F.out.fresh hf fun j hj => hj.elim (HOP.out.1 j) (HOP.out.2 j))
        have hsz := F.out.size
        have HO3 := Lib.hid (And.intro (fun j (hj : Op' j) => (hop' j hj).elim (HOP.out.1 j) fun h => Nat.le_trans hsz h) (fun j (hj : Or' j) => (hor' j hj).elim (HOP.out.2 j) fun h => Nat.le_trans hsz h))
        clear hB' hv' hop' hor' hf HDO hsz
        obtain ⟨th, hth⟩ : ∃ t : Int, (k : Int) % 5 = t := ⟨_, rfl⟩
        have HTH := Lib.hid hth
        clear hth
        have hfw : VFew v' := V3.out.few (by omega)
        have HFW := Lib.hid hfw
        have hpl : (pls th v').length ≤ 28000 := plsN_few th v' hfw 7
        clear hfw
        go_wp2_with fail
        rw [HTH.out]
        refine (places_v B3.out.p HFW.out th).mono ?_
        rintro _ w5 ⟨A1, m1, rfl, hS, hf⟩
        have hm1 : m1 = (pls th v').length := by have := hS.len; rw [plc_len] at this; omega
        subst hm1
        have S1 := Lib.hid hS.rd
        have D := Lib.hid hf
        clear hS hf
        go_wp2_with fail
        rw [HTH.out]
        refine (rplaces_v (B3.out.r.new_ D.out) HFW.out th).mono ?_
        rintro _ w6 ⟨A2, m2, c2', rfl, hS, hf⟩
        have hm2 : m2 = (pls th v').length := by have := hS.len; rw [plc_len] at this; omega
        subst hm2
        have S2 := Lib.hid hS.rd
        have S1' := Lib.hid (S1.out.new_ hf)
        have D2 := Lib.hid (D.out.then_ hf)
        clear hS hf S1 D
        go_wp2_with (go_at_call 20; refine (samePlaces_any A1 A2 _ c2' (pls th v') _ S1'.out S2.out (by omega)).mono ?_; rintro _ w7 ⟨rfl, hf⟩; have D3 := Lib.hid (D2.out.then_ hf); clear hf)
        go_roundw
        case rel => exact ⟨k + 1, Op', Or', v', by go_num, by omega, ⟨B3.out.p.new_ D3.out, B3.out.r.new_ D3.out, B3.out.dj⟩, V3.out.le (by omega), HO3.out.1, HO3.out.2, F3.out.then_ D3.out⟩
        case measure => simp [intOf]; omega
      · have g1 : (60 : Int) < (xn : Int) := by omega
        have g2 : decide ((60 : Int) < (xn : Int)) = true := by rw [decide_eq_true_eq]; exact g1
        rw [hxn] at c5
        clear hxn
        go_wp2_with (go_at_call 7; refine (lives_any _).mono ?_; rintro _ w' ⟨rfl, hf⟩; have HL2 := Lib.hid (F.out.then_ hf); clear hf)
        go_ret
        exact ⟨rfl, HL2.out⟩
    · obtain rfl : k = n := by omega
      have HFW := Lib.hid (VN.out.few (by omega))
      go_wp2_with (first
        | (go_at_call 22; refine (sameSets_any w.heap.size sp sr Op Or v _ BB.out HFW.out).mono ?_; rintro _ w5 ⟨rfl, hf⟩; have D := Lib.hid (F.out.then_ hf); clear hf)
        | (go_at_call 7; refine (lives_any _).mono ?_; rintro _ w' ⟨rfl, hf⟩; have HL2 := Lib.hid (D.out.then_ hf); clear hf))
      go_ret
      exact ⟨rfl, HL2.out⟩
theorem play_all (now : Int) (A : Option Addr) (n c : Nat) (l : List Ac) (w : World) (hr : Rd w w.heap.size 8 A n (l.flatMap Ac.V)) (hok : ∀ x ∈ l, AcOk w x) :
    Calls Try.prog 4 #[.int .u64 now, .slice A n c] w fun e w' => e = .returned (.bool true) ∧ Frm w w' fun _ => False := by
  by_cases hn : n ≤ 60
  · exact play_any now A n c l w hr hok hn
  · exact play_long now A n c w (by omega)
section
open Go.ChangeShapes Go.WideShapes Go.ChangeAt Go.Deep
set_option maxRecDepth 100000 in
/-- An argument that is a slice of acts. -/
theorem open_acts {H : Type} {enc : TypeId × Value → H} {W : World} {base : Nat} {v : Value} {d : DataW H} {p : List MemPlace} {spare : Nat → Bool} {held : Bool}
    (hv : Value.okWide Try.prog W .any base 47 v) (h : DataW.Trod enc Try.prog W 0 spare held 47 v d p) :
    ∃ (A : Option Addr) (len cap : Nat) (xs : List Ac), v = .slice A len cap ∧ len ≤ cap ∧ cap ≤ maxLen ∧ xs.length = len ∧ Rd W W.heap.size 8 A len (xs.flatMap Ac.V) ∧ ∀ x ∈ xs, AcOk W x :=
  open_rows Ac.V (AcOk W) 8 Ac.len (by decide) (fun _ _ _ h => act_cs (by rfl) (by kernel_rfl) h) Try.underlying47 (by kernel_rfl) hv h
end
end Go.Proofs.Ytajcijocjbakbaa
