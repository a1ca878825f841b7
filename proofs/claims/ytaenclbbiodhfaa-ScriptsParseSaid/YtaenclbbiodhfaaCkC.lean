import Derived.Test.YtaenclbbiodhfaaCkB
import Derived.Deep.CutRange
namespace Go.Proofs.Ytaenclbbiodhfaa
open Go.RowKit

/-- What is drawn. -/
def drawV (most d : Nat) : Nat := if most = 18446744073709551615 then d else d % (most + 1)
/-- The next draw; none: 0. -/
def drawOf (most : Nat) (ds : List Nat) : Nat := match ds with | [] => 0 | d :: _ => drawV most d
theorem drawOf_u {most : Nat} {ds : List Nat} (h : ∀ d ∈ ds, U d) : U (drawOf most ds) := by
  cases ds with
  | nil => exact U.zero
  | cons d r =>
    have := (h d (by simp)).lt
    refine ⟨?_⟩
    show drawV most d < _
    unfold drawV
    split
    · exact this
    · exact Nat.lt_of_le_of_lt (Nat.mod_le _ _) this

theorem tail_sl {w : World} {g off cap : Nat} {d : Nat} {rest : List Nat} (h : Sl w 0 1 (some ⟨g, off, none⟩) (d :: rest).length cap (us (d :: rest))) :
    (cap ≠ 1 → Sl w 0 1 (some ⟨g, off + 1, none⟩) rest.length (cap - 1) (us rest)) ∧ (cap = 1 → rest = [] ∧ Sl w 0 1 (some ⟨g, off, none⟩) rest.length (cap - 1) (us rest)) := by
  have hle := h.le
  simp at hle
  constructor
  · intro hc
    obtain ⟨g', off', e, hs⟩ := h.cut (k := 1) (by simp) (by omega)
    injection e with e
    injection e with e1 e2
    subst e1 e2
    simpa [us] using hs
  · intro hc
    have hr : rest = [] := List.eq_nil_of_length_eq_zero (by omega)
    subst hr
    refine ⟨rfl, ?_⟩
    have := h.cutAll (by simp; omega)
    subst hc
    simpa [us] using this

/-- A draw is gone. -/
def Drawn (b now most : Nat) (A : Option Addr) (ds : List Nat) (w w' : World) : Prop := ∃ A' cap', Clk w' b A' cap' now most ds ∧ Frm w w' (fun k => k = b) ∧ ∀ k, blk A' k → blk A k

theorem drawn_put {b cap now most d : Nat} {A A' : Option Addr} {rest : List Nat} {w : World} (h : Clk w b A cap now most (d :: rest)) (hs : Sl w 0 1 A' rest.length (cap - 1) (us rest)) (hb : ∀ k, blk A' k → blk A k) :
    Drawn b now most A rest w (w.setCell ⟨b, 1, none⟩ (.slice A' rest.length (cap - 1))) :=
  ⟨A', cap - 1, h.put hs (fun k => h.nb (hb _ k)) (fun d hd => h.uds d (by simp [hd])), Frm.set1 _ _ _ _, hb⟩
theorem blk_off {g off off' k : Nat} (h : blk (some ⟨g, off, none⟩) k) : blk (some ⟨g, off', none⟩) k := by rw [blk_some] at *; exact h
/-- What the walk of a draw wants. -/
structure DrawIn (b g off cap now most d : Nat) (rest : List Nat) (w : World) : Prop where
  c1 : w.cell? ⟨b, 1, none⟩ = some (.slice (some ⟨g, off, none⟩) (rest.length + 1) cap)
  f1 : w.frozen? ⟨b, 1, none⟩ = false
  cd : w.cell? ⟨g, off, none⟩ = some (.int .u64 d)
  c2 : w.cell? ⟨b, 2, none⟩ = some (.int .u64 most)
  c2' : ∀ v, (w.setCell ⟨b, 1, none⟩ v).cell? ⟨b, 2, none⟩ = some (.int .u64 most)
  hcp : rest.length + 1 ≤ cap
  hmx : cap ≤ 9223372036854775807
  far : cap ≠ 1 → Hid (Drawn b now most (some ⟨g, off, none⟩) rest w (w.setCell ⟨b, 1, none⟩ (.slice (some ⟨g, off + 1, none⟩) rest.length (cap - 1))))
  near : cap = 1 → rest = [] ∧ Hid (Drawn b now most (some ⟨g, off, none⟩) rest w (w.setCell ⟨b, 1, none⟩ (.slice (some ⟨g, off, none⟩) rest.length (cap - 1))))
theorem draw_in {b cap now most d : Nat} {A : Option Addr} {rest : List Nat} {w : World} (h : Clk w b A cap now most (d :: rest)) : ∃ g off, A = some ⟨g, off, none⟩ ∧ DrawIn b g off cap now most d rest w := by
  have hcap := h.sl.le
  have hmx := h.sl.max
  simp at hcap
  obtain ⟨g, off, rfl, _, _, hcell, hfr⟩ := h.sl.form (by omega)
  have ⟨t1, t2⟩ := tail_sl h.sl
  refine ⟨g, off, rfl, by simpa using h.c1, h.free 1, hcell 0 _ rfl, h.c2, fun v => by rw [World.cell?_setCell_other _ _ _ _ (by intro e; injection e with _ e; cases e)]; exact h.c2, hcap, by unfold maxLen at hmx; exact hmx, fun hc => ?_, fun hc => ?_⟩
  · exact drawn_put h (t1 hc) (fun k hk => blk_off hk)
  · exact ⟨(t2 hc).1, drawn_put h (t2 hc).2 (fun k hk => hk)⟩
/-- The greatest number. -/
structure Big (n : Nat) : Prop where
  eq : n = 18446744073709551615
structure Small (n : Nat) : Prop where
  lt : n < 18446744073709551615

set_option maxHeartbeats 400000 in
theorem draw_big (b g off cap now most d : Nat) (rest : List Nat) (hm : Big most) (w : World) (h : DrawIn b g off cap now most d rest w) :
    Calls Try.prog 43 #[.pointer (some ⟨b, 0, none⟩)] w fun e w' => e = .returned (.int .u64 d) ∧ Drawn b now most (some ⟨g, off, none⟩) rest w w' := by
  obtain ⟨c1, f1, cd, c2, c2', hcap, hmax, far, near⟩ := h
  have b1 : ((most : Int) == 18446744073709551615) = true := by have := hm.eq; simp; omega
  by_cases hc : cap = 1
  · obtain ⟨rfl, hd⟩ := near hc
    subst hc
    clear far near hcap
    go_enter Try.func43, Try.ntmps43
    go_wp2
    go_ret
    exact ⟨rfl, hd.out⟩
  · have hd := far hc
    have i1 : (1 : Int) ≤ (rest.length : Int) + 1 := by omega
    have hc' : 1 < cap := by omega
    clear far near
    go_enter Try.func43, Try.ntmps43
    go_wp2
    go_ret
    exact ⟨rfl, hd.out⟩
set_option maxHeartbeats 400000 in
theorem draw_small (b g off cap now most d : Nat) (rest : List Nat) (hm : Small most) (w : World) (h : DrawIn b g off cap now most d rest w) :
    Calls Try.prog 43 #[.pointer (some ⟨b, 0, none⟩)] w fun e w' => e = .returned (.int .u64 (d % (most + 1) : Nat)) ∧ Drawn b now most (some ⟨g, off, none⟩) rest w w' := by
  obtain ⟨c1, f1, cd, c2, c2', hcap, hmax, far, near⟩ := h
  have b1 : ((most : Int) == 18446744073709551615) = false := by have := hm.lt; simp; omega
  have ew : IntKind.u64.wrap ((most : Int) + 1) = ((most + 1 : Nat) : Int) := by have := hm.lt; rw [IntKind.wrap_u64]; omega
  by_cases hc : cap = 1
  · obtain ⟨rfl, hd⟩ := near hc
    subst hc
    clear far near hcap
    go_enter Try.func43, Try.ntmps43
    go_wp2
    go_ret
    exact ⟨rfl, hd.out⟩
  · have hd := far hc
    have i1 : (1 : Int) ≤ (rest.length : Int) + 1 := by omega
    have hc' : 1 < cap := by omega
    clear far near
    go_enter Try.func43, Try.ntmps43
    go_wp2
    go_ret
    exact ⟨rfl, hd.out⟩
set_option maxHeartbeats 400000 in
theorem rdraw_big (b g off cap now most d : Nat) (rest : List Nat) (hm : Big most) (w : World) (h : DrawIn b g off cap now most d rest w) :
    Calls Try.prog 46 #[.pointer (some ⟨b, 0, none⟩)] w fun e w' => e = .returned (.int .u64 d) ∧ Drawn b now most (some ⟨g, off, none⟩) rest w w' := by
  obtain ⟨c1, f1, cd, c2, c2', hcap, hmax, far, near⟩ := h
  by_cases hc : cap = 1
  · obtain ⟨rfl, hd⟩ := near hc
    subst hc
    clear far near hcap
    have b1 : decide ((most : Int) < 18446744073709551615) = false := by have := hm.eq; simp; omega
    go_enter Try.func46, Try.ntmps46
    go_wp2
    go_ret
    exact ⟨rfl, hd.out⟩
  · have hd := far hc
    have i1 : (1 : Int) ≤ (rest.length : Int) + 1 := by omega
    have hc' : 1 < cap := by omega
    clear far near
    go_enter Try.func46, Try.ntmps46
    go_upto_region 5 with fail
    clear hc' hcap hmax i1
    have b1 : decide ((most : Int) < 18446744073709551615) = false := by have := hm.eq; simp; omega
    go_wp2
    go_ret
    exact ⟨rfl, hd.out⟩
set_option maxHeartbeats 400000 in
theorem rdraw_small (b g off cap now most d : Nat) (rest : List Nat) (hm : Small most) (w : World) (h : DrawIn b g off cap now most d rest w) :
    Calls Try.prog 46 #[.pointer (some ⟨b, 0, none⟩)] w fun e w' => e = .returned (.int .u64 (d % (most + 1) : Nat)) ∧ Drawn b now most (some ⟨g, off, none⟩) rest w w' := by
  obtain ⟨c1, f1, cd, c2, c2', hcap, hmax, far, near⟩ := h
  have ew : IntKind.u64.wrap ((most : Int) + 1) = ((most + 1 : Nat) : Int) := by have := hm.lt; rw [IntKind.wrap_u64]; omega
  by_cases hc : cap = 1
  · obtain ⟨rfl, hd⟩ := near hc
    subst hc
    clear far near hcap
    have b1 : decide ((most : Int) < 18446744073709551615) = true := by have := hm.lt; simp; omega
    go_enter Try.func46, Try.ntmps46
    go_wp2
    go_ret
    exact ⟨rfl, hd.out⟩
  · have hd := far hc
    have i1 : (1 : Int) ≤ (rest.length : Int) + 1 := by omega
    have hc' : 1 < cap := by omega
    clear far near
    go_enter Try.func46, Try.ntmps46
    go_upto_region 5 with fail
    clear hc' hcap hmax i1
    have b1 : decide ((most : Int) < 18446744073709551615) = true := by have := hm.lt; simp; omega
    go_wp2
    go_ret
    exact ⟨rfl, hd.out⟩
theorem big_or_small {n : Nat} (h : U n) : Big n ∨ Small n := by
  have := h.lt
  by_cases e : n = 18446744073709551615
  · exact .inl ⟨e⟩
  · exact .inr ⟨by omega⟩
theorem drawOf_big {most d : Nat} {rest : List Nat} (h : Big most) : drawOf most (d :: rest) = d := by simp [drawOf, drawV, h.eq]
theorem drawOf_small {most d : Nat} {rest : List Nat} (h : Small most) : drawOf most (d :: rest) = d % (most + 1) := by
  have := h.lt
  simp [drawOf, drawV]; omega
theorem draw_any (b cap now most : Nat) (A : Option Addr) (ds : List Nat) (w : World) (h : Clk w b A cap now most ds) :
    Calls Try.prog 43 #[.pointer (some ⟨b, 0, none⟩)] w fun e w' => e = .returned (.int .u64 (drawOf most ds : Nat)) ∧ Drawn b now most A ds.tail w w' := by
  cases ds with
  | nil =>
    have c1 := h.c1
    have H := Lib.hid h
    clear h
    go_enter Try.func43, Try.ntmps43
    go_wp2
    go_ret
    exact ⟨rfl, A, cap, H.out, Frm.refl _ _, fun _ h => h⟩
  | cons d rest =>
    obtain ⟨g, off, rfl, hi⟩ := draw_in h
    rcases big_or_small h.umost with hm | hm
    · rw [drawOf_big hm]; exact draw_big b g off cap now most d rest hm w hi
    · rw [drawOf_small hm]; exact draw_small b g off cap now most d rest hm w hi
theorem draw_nil (w : World) : Calls Try.prog 43 #[.pointer none] w fun e w' => e = .returned (.int .u64 0) ∧ w = w' := by
  go_enter Try.func43, Try.ntmps43
  go_wp2
  go_ret
  exact ⟨rfl, rfl⟩
theorem rdraw_any (b cap now most : Nat) (A : Option Addr) (ds : List Nat) (w : World) (h : Clk w b A cap now most ds) :
    Calls Try.prog 46 #[.pointer (some ⟨b, 0, none⟩)] w fun e w' => e = .returned (.int .u64 (drawOf most ds : Nat)) ∧ Drawn b now most A ds.tail w w' := by
  cases ds with
  | nil =>
    have c1 := h.c1
    have H := Lib.hid h
    clear h
    go_enter Try.func46, Try.ntmps46
    go_wp2
    go_ret
    exact ⟨rfl, A, cap, H.out, Frm.refl _ _, fun _ h => h⟩
  | cons d rest =>
    obtain ⟨g, off, rfl, hi⟩ := draw_in h
    rcases big_or_small h.umost with hm | hm
    · rw [drawOf_big hm]; exact rdraw_big b g off cap now most d rest hm w hi
    · rw [drawOf_small hm]; exact rdraw_small b g off cap now most d rest hm w hi
end Go.Proofs.Ytaenclbbiodhfaa
