import Derived.Test.YtaenclbbiodhfaaLnF
namespace Go.Proofs.Ytaenclbbiodhfaa
open Go.RowKit

/-- The place of the first one that is so; none: -1. -/
def fst (p : En → Bool) (xs : List En) : Int := if xs.findIdx p < xs.length then (xs.findIdx p : Nat) else -1
theorem fst_at {p : En → Bool} {xs : List En} {k : Nat} (hk : k < xs.length) (hp : p xs[k] = true) (hb : ∀ j (hj : j < k), p (xs[j]'(by omega)) = false) : fst p xs = k := by
  have e : xs.findIdx p = k := (List.findIdx_eq hk).2 ⟨hp, fun j hj => hb j hj⟩
  unfold fst
  rw [e, if_pos hk]
theorem fst_none {p : En → Bool} {xs : List En} (hb : ∀ j (hj : j < xs.length), p xs[j] = false) : fst p xs = -1 := by
  have : ¬ xs.findIdx p < xs.length := fun h => by
    have := List.findIdx_getElem (w := h)
    rw [hb _ h] at this
    cases this
  unfold fst
  rw [if_neg this]
theorem clos61 (bk : Nat) (x : En) (key : Int) (w : World) (k0 : w.cell? ⟨bk, 0, none⟩ = some (.int .u32 key)) : Calls Try.prog 61 #[En.val x, .pointer (some ⟨bk, 0, none⟩)] w fun e w' => e = .returned (.bool (x.k == key)) ∧ Frm w w' fun _ => False := by
  have l1 := World.block_lt_of_cell? w _ k0
  simp only at l1
  go_enter Try.func61, Try.ntmps61
  go_wp2_with fail
  go_ret
  exact ⟨rfl, (Frm.refl _ _).alloc _⟩
theorem clos62 (bk : Nat) (x : En) (t : Int) (w : World) (k0 : w.cell? ⟨bk, 0, none⟩ = some (.int .i64 t)) : Calls Try.prog 62 #[En.val x, .pointer (some ⟨bk, 0, none⟩)] w fun e w' => e = .returned (.bool (x.t == t)) ∧ Frm w w' fun _ => False := by
  have l1 := World.block_lt_of_cell? w _ k0
  simp only at l1
  go_enter Try.func62, Try.ntmps62
  go_wp2_with fail
  go_ret
  exact ⟨rfl, (Frm.refl _ _).alloc _⟩
set_option maxRecDepth 100000 in
set_option maxHeartbeats 1000000 in
theorem idx_61 (A : Option Addr) (n c bk : Nat) (key : Int) (xs : List En) (w : World) (hr : Rd w w.heap.size 3 A n (ens xs)) (hn : (n : Int) ≤ 1000) (k0 : w.cell? ⟨bk, 0, none⟩ = some (.int .u32 key)) :
    Calls Try.prog 60 #[.slice A n c, .func (.func 61) #[] #[.pointer (some ⟨bk, 0, none⟩)]] w fun e w' => e = .returned (.int .i64 (fst (fun x => x.k == key) xs)) ∧ Frm w w' fun _ => False := by
  obtain ⟨hlen, hcells⟩ := Rd.ens hr
  have HL := Lib.hid hlen
  have HCE := Lib.hid hcells
  have K0 := Lib.hid k0
  clear hr hlen hcells k0
  go_enter Try.func60, Try.ntmps60
  go_wp2_with fail
  go_loopw [5, 8] (fun _ i wr => ∃ k : Nat, i = .int .i64 k ∧ k ≤ n ∧ Hid (∀ j (hj : j < xs.length), j < k → (xs[j].k == key) = false) ∧ Frm w wr fun _ => False) (fun _ i _ => n - (intOf i).toNat)
  case atStart => exact ⟨0, rfl, Nat.zero_le _, (show ∀ j (hj : j < xs.length), j < 0 → (xs[j].k == key) = false from fun j hj h => by omega), Frm.refl _ _⟩
  case round =>
    obtain ⟨k, rfl, hk, hb, hF⟩ := hrel
    have F := Lib.hid hF
    clear hF
    by_cases hlt : k < n
    · obtain ⟨g, off, rfl, hg, hcell⟩ := HCE.out (by omega)
      have hkl : k < xs.length := by have := HL.out; omega
      obtain ⟨x, hx⟩ : ∃ x, x = xs[k] := ⟨_, rfl⟩
      have hc := hcell k hkl
      rw [← hx] at hc
      obtain ⟨q0, q1, q2⟩ := hc
      replace q0 := F.out.cell q0 id
      replace q1 := F.out.cell q1 id
      replace q2 := F.out.cell q2 id
      have i0 : (0 : Int) ≤ (k : Int) := by omega
      have i1 : (k : Int) < (n : Int) := by omega
      have HX := Lib.hid hx
      clear hcell hx
      by_cases hkey : (x.k == key) = true
      · have e1 : Hid (fst (fun x => x.k == key) xs = k) := fst_at hkl (by rw [← HX.out]; exact hkey) (fun j hj => hb.out j (by omega) hj)
        have hk1 := Lib.hid hkey
        clear hkey
        go_wp2_with (go_at_call 61; refine (clos61 bk x key _ (F.out.cell K0.out id)).mono ?_; rw [hk1.out]; rintro e w2 ⟨rfl, hf⟩; have F2 := Lib.hid (F.out.then_ hf); clear hf)
        go_ret
        rw [e1.out]
        exact ⟨rfl, F2.out⟩
      · have hk1 := Lib.hid (show (x.k == key) = false by simpa using hkey)
        clear hkey
        go_wp2_with (go_at_call 61; refine (clos61 bk x key _ (F.out.cell K0.out id)).mono ?_; rw [hk1.out]; rintro e w2 ⟨rfl, hf⟩; have F2 := Lib.hid (F.out.then_ hf); clear hf)
        go_roundw
        case rel => exact ⟨k + 1, by go_num, by omega, (show ∀ j (hj : j < xs.length), j < k + 1 → (xs[j].k == key) = false from fun j hj h => by
          rcases Nat.lt_or_eq_of_le (Nat.le_of_lt_succ h) with h | h
          · exact hb.out j hj h
          · subst h; rw [← HX.out]; exact hk1.out), F2.out⟩
        case measure => simp [intOf]; omega
    · obtain rfl : k = n := by omega
      have e1 : Hid (fst (fun x => x.k == key) xs = -1) := fst_none (fun j hj => hb.out j hj (by have := HL.out; omega))
      go_wp2_with fail
      go_ret
      rw [e1.out]
      exact ⟨rfl, F.out⟩
set_option maxRecDepth 100000 in
set_option maxHeartbeats 1000000 in
theorem idx_62 (A : Option Addr) (n c bk : Nat) (key : Int) (xs : List En) (w : World) (hr : Rd w w.heap.size 3 A n (ens xs)) (hn : (n : Int) ≤ 1000) (k0 : w.cell? ⟨bk, 0, none⟩ = some (.int .i64 key)) :
    Calls Try.prog 60 #[.slice A n c, .func (.func 62) #[] #[.pointer (some ⟨bk, 0, none⟩)]] w fun e w' => e = .returned (.int .i64 (fst (fun x => x.t == key) xs)) ∧ Frm w w' fun _ => False := by
  obtain ⟨hlen, hcells⟩ := Rd.ens hr
  have HL := Lib.hid hlen
  have HCE := Lib.hid hcells
  have K0 := Lib.hid k0
  clear hr hlen hcells k0
  go_enter Try.func60, Try.ntmps60
  go_wp2_with fail
  go_loopw [5, 8] (fun _ i wr => ∃ k : Nat, i = .int .i64 k ∧ k ≤ n ∧ Hid (∀ j (hj : j < xs.length), j < k → (xs[j].t == key) = false) ∧ Frm w wr fun _ => False) (fun _ i _ => n - (intOf i).toNat)
  case atStart => exact ⟨0, rfl, Nat.zero_le _, (show ∀ j (hj : j < xs.length), j < 0 → (xs[j].t == key) = false from fun j hj h => by omega), Frm.refl _ _⟩
  case round =>
    obtain ⟨k, rfl, hk, hb, hF⟩ := hrel
    have F := Lib.hid hF
    clear hF
    by_cases hlt : k < n
    · obtain ⟨g, off, rfl, hg, hcell⟩ := HCE.out (by omega)
      have hkl : k < xs.length := by have := HL.out; omega
      obtain ⟨x, hx⟩ : ∃ x, x = xs[k] := ⟨_, rfl⟩
      have hc := hcell k hkl
      rw [← hx] at hc
      obtain ⟨q0, q1, q2⟩ := hc
      replace q0 := F.out.cell q0 id
      replace q1 := F.out.cell q1 id
      replace q2 := F.out.cell q2 id
      have i0 : (0 : Int) ≤ (k : Int) := by omega
      have i1 : (k : Int) < (n : Int) := by omega
      have HX := Lib.hid hx
      clear hcell hx
      by_cases hkey : (x.t == key) = true
      · have e1 : Hid (fst (fun x => x.t == key) xs = k) := fst_at hkl (by rw [← HX.out]; exact hkey) (fun j hj => hb.out j (by omega) hj)
        have hk1 := Lib.hid hkey
        clear hkey
        go_wp2_with (go_at_call 62; refine (clos62 bk x key _ (F.out.cell K0.out id)).mono ?_; rw [hk1.out]; rintro e w2 ⟨rfl, hf⟩; have F2 := Lib.hid (F.out.then_ hf); clear hf)
        go_ret
        rw [e1.out]
        exact ⟨rfl, F2.out⟩
      · have hk1 := Lib.hid (show (x.t == key) = false by simpa using hkey)
        clear hkey
        go_wp2_with (go_at_call 62; refine (clos62 bk x key _ (F.out.cell K0.out id)).mono ?_; rw [hk1.out]; rintro e w2 ⟨rfl, hf⟩; have F2 := Lib.hid (F.out.then_ hf); clear hf)
        go_roundw
        case rel => exact ⟨k + 1, by go_num, by omega, (show ∀ j (hj : j < xs.length), j < k + 1 → (xs[j].t == key) = false from fun j hj h => by
          rcases Nat.lt_or_eq_of_le (Nat.le_of_lt_succ h) with h | h
          · exact hb.out j hj h
          · subst h; rw [← HX.out]; exact hk1.out), F2.out⟩
        case measure => simp [intOf]; omega
    · obtain rfl : k = n := by omega
      have e1 : Hid (fst (fun x => x.t == key) xs = -1) := fst_none (fun j hj => hb.out j hj (by have := HL.out; omega))
      go_wp2_with fail
      go_ret
      rw [e1.out]
      exact ⟨rfl, F.out⟩
set_option maxRecDepth 100000 in
theorem first_any (A : Option Addr) (n c : Nat) (key : Int) (xs : List En) (w : World) (hr : Rd w w.heap.size 3 A n (ens xs)) (hn : (n : Int) ≤ 1000) :
    Calls Try.prog 17 #[.slice A n c, .int .u32 key] w fun e w' => e = .returned (.int .i64 (fst (fun x => x.k == key) xs)) ∧ Frm w w' fun _ => False := by
  have R := Lib.hid (hr.new_ ((Frm.refl w _).alloc (.cells #[.int .u32 key] 24)))
  have K : Hid ((w.alloc (.cells #[.int .u32 key] 24)).cell? ⟨w.heap.size, 0, none⟩ = some (.int .u32 key)) := by show _ = _; rw [World.cell?_alloc_new]; rfl
  clear hr
  go_enter Try.func17, Try.ntmps17
  go_wp2_with (go_at_call 60; refine (idx_61 A n c w.heap.size key xs _ R.out hn K.out).mono ?_; rintro e w2 ⟨rfl, hf⟩; have F2 := Lib.hid (((Frm.refl w (fun _ => False)).alloc _).then_ hf); clear hf)
  go_ret
  exact ⟨rfl, F2.out⟩
set_option maxRecDepth 100000 in
theorem of_any (A : Option Addr) (n c : Nat) (key : Int) (xs : List En) (w : World) (hr : Rd w w.heap.size 3 A n (ens xs)) (hn : (n : Int) ≤ 1000) :
    Calls Try.prog 21 #[.slice A n c, .int .i64 key] w fun e w' => e = .returned (.int .i64 (fst (fun x => x.t == key) xs)) ∧ Frm w w' fun _ => False := by
  have R := Lib.hid (hr.new_ ((Frm.refl w _).alloc (.cells #[.int .i64 key] 3)))
  have K : Hid ((w.alloc (.cells #[.int .i64 key] 3)).cell? ⟨w.heap.size, 0, none⟩ = some (.int .i64 key)) := by show _ = _; rw [World.cell?_alloc_new]; rfl
  clear hr
  go_enter Try.func21, Try.ntmps21
  go_wp2_with (go_at_call 60; refine (idx_62 A n c w.heap.size key xs _ R.out hn K.out).mono ?_; rintro e w2 ⟨rfl, hf⟩; have F2 := Lib.hid (((Frm.refl w (fun _ => False)).alloc _).then_ hf); clear hf)
  go_ret
  exact ⟨rfl, F2.out⟩
end Go.Proofs.Ytaenclbbiodhfaa
