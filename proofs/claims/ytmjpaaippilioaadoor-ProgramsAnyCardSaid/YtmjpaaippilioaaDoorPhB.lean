import Derived.Test.YtmjpaaippilioaaDoorPhA
namespace Go.Proofs.YtmjpaaippilioaaDoor
open Go.RowKit

/-! ### what gives back; what is turned -/
def backO (k : Nat) : Nat := if k = 0 then 2 else if k = 3 then 5 else if k = 6 then 8 else 11
set_option maxRecDepth 100000 in
theorem back_any (k : Nat) (hk : (k : Int) ≤ 255) (w : World) : Calls Tryd.prog 61 #[.int .u8 k] w fun e w' => e = .returned (.int .u8 (backO k : Nat)) ∧ w = w' := by
  have k0 : (0 : Int) ≤ (k : Int) := by omega
  unfold backO
  by_cases h0 : k = 0
  · subst h0
    go_enter Tryd.func61, Tryd.ntmps61
    go_wp2_with fail
    go_ret
    exact ⟨rfl, rfl⟩
  · by_cases h3 : k = 3
    · subst h3
      go_enter Tryd.func61, Tryd.ntmps61
      go_wp2_with fail
      go_ret
      exact ⟨rfl, rfl⟩
    · by_cases h6 : k = 6
      · subst h6
        go_enter Tryd.func61, Tryd.ntmps61
        go_wp2_with fail
        go_ret
        exact ⟨rfl, rfl⟩
      · have e0 : ((k : Int) == 0) = false := by simp; omega
        have e3 : ((k : Int) == 3) = false := by simp; omega
        have e6 : ((k : Int) == 6) = false := by simp; omega
        rw [if_neg h0, if_neg h3, if_neg h6]
        clear h0 h3 h6
        go_enter Tryd.func61, Tryd.ntmps61
        go_wp2_with fail
        go_ret
        exact ⟨rfl, rfl⟩
def KOk (l : List OpR) : Prop := ∀ x ∈ l, 0 ≤ x.k ∧ x.k ≤ 255
theorem KOk.nil : KOk [] := fun _ h => by cases h
theorem KOk.app {l m : List OpR} (h : KOk l) (k : KOk m) : KOk (l ++ m) := fun x hx => (List.mem_append.1 hx).elim (h x) (k x)
theorem KOk.one {x : OpR} (h : 0 ≤ x.k) (k : x.k ≤ 255) : KOk [x] := fun y hy => by rw [List.mem_singleton] at hy; subst hy; exact ⟨h, k⟩
theorem KOk.take {l : List OpR} (h : KOk l) (n : Nat) : KOk (l.take n) := fun x hx => h x (List.mem_of_mem_take hx)
theorem opsV_set (v : Int) (h0 : 0 ≤ v) (h1 : v ≤ 255) : ∀ (l : List OpR) (i : Nat), i < l.length → KOk l → ∃ m, opsV m = (opsV l).set (i * 7) (.int .u8 v) ∧ m.length = l.length ∧ KOk m
  | [], i, h, _ => by simp at h
  | x :: r, 0, _, hk => by
    refine ⟨⟨v, x.a, x.o, x.t, x.fl, x.fa, x.g⟩ :: r, rfl, rfl, fun y hy => ?_⟩
    rcases List.mem_cons.1 hy with rfl | hy
    · exact ⟨h0, h1⟩
    · exact hk y (List.mem_cons_of_mem _ hy)
  | x :: r, i + 1, h, hk => by
    obtain ⟨m, e, hl, hm⟩ := opsV_set v h0 h1 r i (by simpa using h) (fun y hy => hk y (List.mem_cons_of_mem _ hy))
    refine ⟨x :: m, ?_, by simp [hl], fun y hy => ?_⟩
    · rw [opsV, List.flatMap_cons, opsV, List.flatMap_cons, show m.flatMap OpR.cs = _ from e, List.set_append_right _ _ (by rw [OpR.cs_len]; omega), OpR.cs_len]
      congr 2
      omega
    · rcases List.mem_cons.1 hy with rfl | hy
      · exact hk y List.mem_cons_self
      · exact hm y hy
set_option maxRecDepth 100000 in
set_option maxHeartbeats 1000000 in
theorem turned_any (A : Option Addr) (n c : Nat) (hs : List OpR) (B : Nat) (k : Nat) (hk : (k : Int) ≤ 255) (w : World) (h : Sl w B 7 A n c (opsV hs)) (hn : (n : Int) ≤ 1000) (hK : KOk hs) :
    Calls Tryd.prog 60 #[.slice A n c, .int .u8 k] w fun e w' => (∃ v, e = .returned v) ∧ (∃ m, Sl w' B 7 A n c (opsV m) ∧ KOk m) ∧ Frm w w' (blk A) := by
  have k0 : (0 : Int) ≤ (k : Int) := by omega
  have hl : hs.length = n := by have := h.len; rw [opsV_len] at this; omega
  by_cases hn0 : n = 0
  · subst hn0
    have H := Lib.hid h
    clear h hl
    go_enter Tryd.func60, Tryd.ntmps60
    go_wp2_with fail
    refine bodyPost_ret (results_none rfl _ _ _) rfl ?_
    exact ⟨⟨_, rfl⟩, ⟨hs, H.out, hK⟩, Frm.refl _ _⟩
  · obtain ⟨g, off, rfl, hg, hgw, hc, hfz⟩ := h.form (by have := h.le; omega)
    have hlt : n - 1 < hs.length := by omega
    obtain ⟨q0, q1⟩ := hK _ (List.getElem_mem hlt)
    have c0 : w.cell? ⟨g, off + (n - 1) * 7, none⟩ = some (.int .u8 hs[n - 1].k) := hc ((n - 1) * 7) _ (by
      have := flat_get OpR.cs 7 OpR.cs_len hs (n - 1) 0 hlt (by decide)
      rw [Nat.add_zero] at this
      rw [this]; rfl)
    have c0f := hfz ((n - 1) * 7)
    obtain ⟨y, hy⟩ : ∃ y, hs[n - 1].k = y := ⟨_, rfl⟩
    rw [hy] at c0 q0 q1
    have hset : ∀ v : Int, 0 ≤ v → v ≤ 255 → (∃ m, Sl (w.setCell ⟨g, off + (n - 1) * 7, none⟩ (.int .u8 v)) B 7 (some ⟨g, off, none⟩) n c (opsV m) ∧ KOk m) ∧ Frm w (w.setCell ⟨g, off + (n - 1) * 7, none⟩ (.int .u8 v)) (blk (some ⟨g, off, none⟩)) := fun v v0 v1 => by
      obtain ⟨m, e, _, hm⟩ := opsV_set v v0 v1 hs (n - 1) hlt hK
      refine ⟨⟨m, ?_, hm⟩, (Frm.refl _ _).setCell (p := ⟨g, off + (n - 1) * 7, none⟩) (fun _ => (blk_some _ _ _).2 rfl) _⟩
      rw [e]
      exact h.set (by rw [opsV_len]; omega) _
    have HS := Lib.hid hset
    have H := Lib.hid h
    have HK := Lib.hid hK
    have hn1 : (1 : Int) ≤ (n : Int) := by omega
    clear h hl hgw hc hfz hy hset hK hlt hg
    go_enter Tryd.func60, Tryd.ntmps60
    go_wp2_with fail
    all_goals
      go_end0
      first
        | exact ⟨⟨_, rfl⟩, HS.out 6 (by decide) (by decide)⟩
        | exact ⟨⟨_, rfl⟩, HS.out 3 (by decide) (by decide)⟩
        | exact ⟨⟨_, rfl⟩, ⟨hs, H.out, HK.out⟩, Frm.refl _ _⟩
end Go.Proofs.YtmjpaaippilioaaDoor
