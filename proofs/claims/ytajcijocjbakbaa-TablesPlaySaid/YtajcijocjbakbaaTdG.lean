import Derived.Test.YtajcijocjbakbaaTdF
namespace Go.Proofs.Ytajcijocjbakbaa
open Go.RowKit

theorem cell_set {w : World} {s i j : Nat} {v u : Value} (h : w.cell? ⟨s, j, none⟩ = some u) : (w.setCell ⟨s, i, none⟩ v).cell? ⟨s, j, none⟩ = some (if j = i then v else u) := by
  by_cases e : j = i
  · subst e
    rw [if_pos rfl]
    exact World.cell?_setCell_same w _ v h
  · rw [if_neg e, World.cell?_setCell_other _ _ _ _ (by intro x; simp only [Addr.mk.injEq] at x; omega)]
    exact h
theorem blk_none_hd {j : Nat} {h : Hd} (e : h = ⟨none, 0, 0⟩) : ¬ blk h.A j := by rw [e]; exact blk_none j
theorem rows_of {w : World} {C a n c : Nat} {A : Option Addr} {hs : List Hd} {qs : List (List En)} (h : OwD w C a A n c hs qs) (bs : List Vk) (hb : bs.map (·.2.2) = qs) : ∀ (i : Nat) (x : Hd) (k : Vk), hs[i]? = some x → bs[i]? = some k → Rd w w.heap.size 3 x.A x.n (ens k.2.2) := by
  intro i x k hx hk
  obtain ⟨h1, rfl⟩ := List.getElem?_eq_some_iff.1 hx
  have hq : qs[i]? = some k.2.2 := by rw [← hb, List.getElem?_map, hk]; rfl
  obtain ⟨h2, e2⟩ := List.getElem?_eq_some_iff.1 hq
  have := (h.row i h1 h2).rd
  rw [e2] at this
  exact this
set_option maxRecDepth 100000 in
set_option maxHeartbeats 1000000 in
theorem rnew_any (now : Int) (w : World) :
    Calls Try.prog 18 #[.int .u64 now] w fun e w' => ∃ s T, e = .returned (.pointer (some ⟨s, 0, none⟩)) ∧ RSet w' w.heap.size s T (vnew now) ∧ Frm w w' fun _ => False := by
  have HRE := Lib.hid (fun V : World => rrehash_in none 0 0 2 [] [] V (by omega) (by omega) (OwD.nil V V.heap.size V.heap.size).rd (by decide) (by simp) (by simp) (by simp))
  have HBE := Lib.hid (fun V : World => rbegins_any 2 now V (by omega) (by omega))
  rw [show 2 ^ 2 = 4 from rfl] at HRE HBE
  go_enter Try.func18, Try.ntmps18
  go_wp2_with fail
  refine at_world' ?_
  intro W hW
  have hFW : Frm w W fun _ => False := by rw [hW]; exact (Frm.refl _ _).alloc _
  have hall : ∀ i : Nat, i < 18 → W.cell? ⟨w.heap.size, i, none⟩ = some (.slice none 0 0) := by
    intro i hi
    rw [hW, World.cell?_alloc_new]
    have : i = 0 ∨ i = 1 ∨ i = 2 ∨ i = 3 ∨ i = 4 ∨ i = 5 ∨ i = 6 ∨ i = 7 ∨ i = 8 ∨ i = 9 ∨ i = 10 ∨ i = 11 ∨ i = 12 ∨ i = 13 ∨ i = 14 ∨ i = 15 ∨ i = 16 ∨ i = 17 := by omega
    rcases this with rfl | rfl | rfl | rfl | rfl | rfl | rfl | rfl | rfl | rfl | rfl | rfl | rfl | rfl | rfl | rfl | rfl | rfl <;> rfl
  have hfz : ∀ j, W.frozen? ⟨w.heap.size, j, none⟩ = false := by intro j; rw [hW]; go_simp
  have hsW : w.heap.size < W.heap.size := by rw [hW]; simp
  obtain ⟨s, hs⟩ : ∃ s, w.heap.size = s := ⟨_, rfl⟩
  rw [hs] at hall hfz hsW ⊢
  have hR0 : RSet W s s _ [] := RSet.zero hall hfz ⟨Nat.le_refl _, hsW⟩
  have R0 := Lib.hid hR0
  have HALL := Lib.hid hall
  have HFZ := Lib.hid hfz
  have HFW := Lib.hid hFW
  have HSE := Lib.hid hs
  clear hW hall hfz hR0 hFW hs
  go_region_with (go_at_call 33; refine (HRE.out _).mono ?_; rintro e w2 ⟨Ao, co, hs1, rfl, hO, hf⟩; have O := Lib.hid hO; have F2 := Lib.hid (((Frm.refl W fun _ => False).drew).then_ hf); have c2 := F2.out.cell (HALL.out 2 (by decide)) id; have f2 := (F2.out.frozen (p := ⟨s, 2, none⟩) hsW id).trans (HFZ.out 2); clear hO hf)
  go_wp2_with fail
  refine at_world' ?_
  intro U hU
  have hFU : Frm W U fun j => j = s := by rw [hU]; exact (F2.out.none_ fun j => j = s).setCell (p := ⟨s, 2, none⟩) (fun _ => rfl) _
  have hUall : ∀ i : Nat, i < 18 → U.cell? ⟨s, i, none⟩ = some (if i = 2 then .slice Ao 4 co else .slice none 0 0) := fun i hi => by rw [hU]; exact cell_set (F2.out.cell (HALL.out i hi) id)
  have hUfz : ∀ j, U.frozen? ⟨s, j, none⟩ = false := fun j => by rw [hU, World.frozen?_setCell]; exact (F2.out.frozen (p := ⟨s, j, none⟩) hsW id).trans (HFZ.out j)
  have hOU : OwD U W.heap.size W.heap.size Ao 4 co hs1 (rehash 2 []) := by
    rw [hU]
    exact O.out.frm (S := fun j => j = s) ((Frm.refl w2 fun j => j = s).setCell (p := ⟨s, 2, none⟩) (fun _ => rfl) _) (fun k hk e => by have : W.heap.size ≤ k := (O.out.out.ge hk).1; omega) (fun k hk _ e => by have : W.heap.size ≤ k := hk; omega)
  have hsU : s < U.heap.size := Nat.lt_of_lt_of_le hsW hFU.size
  have HU := Lib.hid (And.intro hFU (And.intro hUall (And.intro hUfz hOU)))
  clear hU hFU hUall hUfz hOU c2 f2 O F2 HRE
  go_region_with (go_at_call 34; refine (HBE.out _).mono ?_; rintro e w3 ⟨At, ct, rfl, hT, hf⟩; have TT := Lib.hid hT; have F3 := Lib.hid (((Frm.refl U fun _ => False).drew).then_ hf); have c11 : w3.cell? ⟨s, 11, none⟩ = some (.slice none 0 0) := F3.out.cell (HU.out.2.1 11 (by decide)) id; have f11 := (F3.out.frozen (p := ⟨s, 11, none⟩) hsU id).trans (HU.out.2.2.1 11); clear hT hf)
  all_goals
    go_wp2_with fail
    go_ret
    have hfin : Frm W (w3.setCell ⟨s, 11, none⟩ (.slice At 4 ct)) fun j => j = s := (HU.out.1.then_ (F3.out.none_ _)).setCell (p := ⟨s, 11, none⟩) (fun _ => rfl) _
    have hc : ∀ i : Nat, i < 18 → (w3.setCell ⟨s, 11, none⟩ (.slice At 4 ct)).cell? ⟨s, i, none⟩ = some (if i = 11 then .slice At 4 ct else if i = 2 then .slice Ao 4 co else .slice none 0 0) := fun i hi => cell_set (F3.out.cell (HU.out.2.1 i hi) id)
    have hWU : W.heap.size ≤ U.heap.size := HU.out.1.size
    have hO3 : OwD (w3.setCell ⟨s, 11, none⟩ (.slice At 4 ct)) W.heap.size W.heap.size Ao 4 co hs1 (rehash 2 []) :=
      (HU.out.2.2.2.new_ F3.out).frm (S := fun j => j = s) ((Frm.refl w3 fun j => j = s).setCell (p := ⟨s, 11, none⟩) (fun _ => rfl) _) (fun k hk e => by have := (HU.out.2.2.2.out.ge hk).1; omega) (fun k hk _ e => by omega)
    have hrh : rehash 2 [] = List.replicate 4 [] := bks_nil 2
    have hlen : (vbegun now (List.replicate 4 [])).length = 4 := by simp [vbegun]
    have htU : ∀ j, blk At j → U.heap.size ≤ j := fun j hj => (TT.out.ge hj).1
    have hT3 := TT.out.setCell (p := ⟨s, 11, none⟩) (fun hb => by have := htU s hb; omega) (.slice At 4 ct)
    rw [HSE.out]
    refine ⟨s, _, rfl, R0.out.setTab (m := 2) ⟨Ao, 4, co⟩ ⟨At, 4, ct⟩ hs1 (vbegun now (List.replicate 4 [])) (v' := vnew now) hfin ?_ ?_ hO3.out ?_ ?_ (rows_of hO3 _ ?_) ?_ ?_ ?_ rfl ?_, ?_⟩
    · intro d hd
      have h1 := hc d (by omega)
      have h2 := hc (9 + d) (by omega)
      rw [if_neg (by omega)] at h1
      rw [if_neg (show ¬ 9 + d = 2 by omega)] at h2
      by_cases he : d = 2
      · subst he
        exact ⟨h1, h2⟩
      · rw [if_neg he] at h1 ⊢
        rw [if_neg (by omega)] at h2
        rw [if_neg he]
        exact ⟨h1, h2⟩
    · intro j
      rw [World.frozen?_setCell]
      exact (F3.out.frozen (p := ⟨s, j, none⟩) hsU id).trans (HU.out.2.2.1 j)
    · have : tmc (vbegun now (List.replicate 4 [])) = tmc (List.replicate 4 (now, now, [])) := by simp [vbegun, tmc]
      rw [this]
      exact hT3.mono (show s ≤ U.heap.size by omega)
    · exact ⟨hlen.symm, by rw [hlen]; exact hO3.len, hlen.symm⟩
    · rw [hrh]
      simp [vbegun]
    · intro x hx j hj
      obtain ⟨i, hi, rfl⟩ := List.mem_iff_getElem.1 hx
      have h3 := (hO3.row i hi (by rw [hO3.lenq, ← hO3.len]; exact hi)).ge hj
      have h4 := (HU.out.2.2.2.row i hi (by rw [hO3.lenq, ← hO3.len]; exact hi)).ge hj
      exact ⟨h3.1, h3.2, hO3.dA i hi j hj, fun hh => by have := htU j hh; omega⟩
    · intro j hj
      have h3 : U.heap.size ≤ j := htU j hj
      refine ⟨by omega, fun hh => by have := (HU.out.2.2.2.out.ge hh).2; omega, fun e he hne => ⟨blk_none j, blk_none j, fun x hx => by cases hx⟩⟩
    · intro e
      unfold vget vnew
      by_cases he : e = ((2 : Nat) : Int)
      · subst he
        rfl
      · have he2 : ¬ (2 : Int) = e := fun x => he x.symm
        rw [if_neg he, List.find?_cons_of_neg (by simpa using he2)]
    · rw [hlen]
      decide
    · exact HFW.out.fresh hfin fun j hj => by rw [HSE.out]; omega
end Go.Proofs.Ytajcijocjbakbaa
