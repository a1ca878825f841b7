import Derived.Test.YtajcijocjbakbaaDoorOwI
namespace Go.Proofs.YtajcijocjbakbaaDoor
open Go.RowKit

/-! ### the tables as they are laid -/
def usesL : List Use := [
  ⟨⟨#[108, 111, 99, 107]⟩, 1024, 0, true, ⟨#[]⟩, false, 0⟩,
  ⟨⟨#[116, 114, 121]⟩, 1024, 0, false, ⟨#[]⟩, false, 0⟩,
  ⟨⟨#[117, 110, 108, 111, 99, 107]⟩, 1024, 0, false, ⟨#[102, 97, 105, 114]⟩, false, 0⟩,
  ⟨⟨#[114, 101, 97, 100]⟩, 1056, 0, true, ⟨#[]⟩, false, 0⟩,
  ⟨⟨#[116, 114, 121, 114, 101, 97, 100]⟩, 1056, 0, false, ⟨#[]⟩, false, 0⟩,
  ⟨⟨#[117, 110, 114, 101, 97, 100]⟩, 1056, 0, false, ⟨#[]⟩, false, 0⟩,
  ⟨⟨#[117, 112, 103, 114]⟩, 1056, 0, true, ⟨#[]⟩, false, 0⟩,
  ⟨⟨#[116, 114, 121, 117, 112, 103, 114]⟩, 1056, 0, false, ⟨#[]⟩, false, 0⟩,
  ⟨⟨#[117, 110, 117, 112, 103, 114]⟩, 1056, 0, false, ⟨#[102, 97, 105, 114]⟩, false, 0⟩,
  ⟨⟨#[119, 114, 105, 116, 101]⟩, 1056, 0, true, ⟨#[]⟩, false, 0⟩,
  ⟨⟨#[116, 114, 121, 119, 114, 105, 116, 101]⟩, 1056, 0, false, ⟨#[]⟩, false, 0⟩,
  ⟨⟨#[117, 110, 119, 114, 105, 116, 101]⟩, 1056, 0, false, ⟨#[102, 97, 105, 114]⟩, false, 0⟩,
  ⟨⟨#[117, 112]⟩, 1056, 0, true, ⟨#[]⟩, false, 0⟩,
  ⟨⟨#[116, 114, 121, 117, 112]⟩, 1056, 0, false, ⟨#[]⟩, false, 0⟩,
  ⟨⟨#[100, 111, 119, 110]⟩, 1056, 0, false, ⟨#[]⟩, false, 0⟩,
  ⟨⟨#[115, 111, 102, 116]⟩, 1056, 0, false, ⟨#[]⟩, false, 0⟩,
  ⟨⟨#[108, 111, 111, 115, 101]⟩, 1056, 0, false, ⟨#[]⟩, false, 0⟩,
  ⟨⟨#[119, 97, 105, 116]⟩, 1088, 1024, true, ⟨#[]⟩, false, 0⟩,
  ⟨⟨#[110, 111, 116, 105, 102, 121]⟩, 1088, 0, false, ⟨#[]⟩, false, 0⟩,
  ⟨⟨#[110, 111, 116, 105, 102, 121, 97, 108, 108]⟩, 1088, 0, false, ⟨#[]⟩, false, 0⟩,
  ⟨⟨#[100, 111]⟩, 1120, 0, false, ⟨#[102, 111, 114, 99, 101]⟩, true, 16⟩,
  ⟨⟨#[112, 97, 114, 107]⟩, 1152, 0, true, ⟨#[]⟩, false, 256⟩,
  ⟨⟨#[111, 110, 101]⟩, 1152, 0, false, ⟨#[]⟩, false, 256⟩,
  ⟨⟨#[97, 108, 108]⟩, 1152, 0, false, ⟨#[]⟩, false, 256⟩,
  ⟨⟨#[115, 111, 109, 101]⟩, 1152, 0, false, ⟨#[]⟩, false, 256⟩,
  ⟨⟨#[114, 101, 113, 117, 101, 117, 101]⟩, 1152, 1152, false, ⟨#[]⟩, false, 5⟩]
def asksL : List Ask := [
  ⟨true, 0, 3, 3, false⟩,
  ⟨true, 0, 3, 3, false⟩,
  ⟨true, 3, 0, 4, false⟩,
  ⟨true, 0, 1, 3, false⟩,
  ⟨true, 0, 1, 3, false⟩,
  ⟨true, 1, 0, 4, false⟩,
  ⟨true, 0, 2, 3, false⟩,
  ⟨true, 0, 2, 3, false⟩,
  ⟨true, 2, 0, 4, false⟩,
  ⟨true, 0, 3, 3, false⟩,
  ⟨true, 0, 3, 3, false⟩,
  ⟨true, 3, 0, 4, false⟩,
  ⟨true, 2, 3, 4, false⟩,
  ⟨true, 2, 3, 4, false⟩,
  ⟨true, 3, 1, 4, false⟩,
  ⟨true, 3, 2, 4, false⟩,
  ⟨true, 2, 1, 4, false⟩,
  ⟨true, 3, 3, 4, true⟩,
  ⟨false, 0, 0, 0, false⟩,
  ⟨false, 0, 0, 0, false⟩,
  ⟨false, 0, 0, 0, false⟩,
  ⟨false, 0, 0, 0, false⟩,
  ⟨false, 0, 0, 0, false⟩,
  ⟨false, 0, 0, 0, false⟩,
  ⟨false, 0, 0, 0, false⟩,
  ⟨false, 0, 0, 0, false⟩]
def Ut (k : Nat) : Use := usesL.getD k ⟨⟨#[]⟩, 0, 0, false, ⟨#[]⟩, false, 0⟩
def At (k : Nat) : Ask := asksL.getD k ⟨false, 0, 0, 0, false⟩
theorem tabsOk : TabsOk Ut := ⟨by decide, by decide⟩
theorem asksOk : AsksOk At := by unfold AsksOk; decide
theorem Tabs.frm {w w' : World} {U : Nat → Use} {A : Nat → Ask} {S : Nat → Prop} (h : Tabs w U A) (hf : Frm w w' S) (h0 : ¬ S 0) (h1 : ¬ S 1) : Tabs w' U A :=
  ⟨fun k hk j v hv => hf.cell (h.u k hk j v hv) h0, fun k hk j v hv => hf.cell (h.a k hk j v hv) h1⟩
/-- A book of the call's own: what has turned since w0 is new. -/
structure St (w0 w : World) (s : Nat) (g : Option Nat) (l : List (Th × Value)) : Prop where
  bk : Bk w s g l
  frm : Frm w0 w fun _ => False
  low : w0.heap.size ≤ s
  lowg : ∀ b, g = some b → w0.heap.size ≤ b
/-- The tables lie in the world at the start. -/
structure T0 (w0 : World) : Prop where
  tabs : Tabs w0 Ut At
  size : 1 < w0.heap.size
section
variable {w0 w w' : World} {s : Nat} {g : Option Nat} {l : List (Th × Value)}
theorem St.new_ (h : St w0 w s g l) (hf : Frm w w' fun _ => False) : St w0 w' s g l := ⟨h.bk.new_ hf, h.frm.then_ hf, h.low, h.lowg⟩
theorem St.tabs (h : St w0 w s g l) (h0 : T0 w0) : Tabs w Ut At := h0.tabs.new_ h.frm
theorem St.big (h : St w0 w s g l) (h0 : T0 w0) : 1 < w.heap.size := Nat.lt_of_lt_of_le h0.size h.frm.size
theorem St.can (h : St w0 w s g l) (h0 : T0 w0) (t : Int) (ht0 : 0 ≤ t) (ht1 : t < 64) (x : OpR) (k : Nat) (hk : x.k = k) (hk8 : k < 256) :
    Calls Tryd.prog 8 #[.pointer (some ⟨s, 0, none⟩), .int .i64 t, x.V] w fun e w' => e = .returned (.int .i64 (canO Ut At l t x)) ∧ St w0 w' s g l :=
  (can_any Ut At s g l t ht0 ht1 x k hk hk8 w (h.tabs h0) (h.big h0) tabsOk h.bk).mono fun _ _ ⟨e, hf⟩ => ⟨e, h.new_ hf⟩
theorem St.did_no (h : St w0 w s g l) (h0 : T0 w0) (t : Int) (ht0 : 0 ≤ t) (ht1 : t < 64) (x : OpR) (k : Nat) (hk : x.k = k) (hk8 : k < 256) (er : Int) (hno : er ≠ 0 ∨ canO Ut At l t x ≠ 0) :
    Calls Tryd.prog 9 #[.pointer (some ⟨s, 0, none⟩), .int .i64 t, x.V, .int .i64 er] w fun e w' => e = .returned (.bool false) ∧ St w0 w' s g l :=
  (YtajcijocjbakbaaDoor.did_no Ut At s g l t ht0 ht1 x k hk hk8 er hno w (h.tabs h0) (h.big h0) tabsOk h.bk).mono fun _ _ ⟨e, hf⟩ => ⟨e, h.new_ hf⟩
theorem can_lt {U : Nat → Use} {A : Nat → Ask} {t : Int} {x : OpR} {k : Nat} (hk : x.k = k) (h : canO U A l t x = 0) : k < 26 := by
  unfold canO at h
  by_cases hm : mayO U x = true
  · have := (mayO_bounds hm).1
    omega
  · rw [if_neg hm] at h
    cases h
theorem St.did_yes (h : St w0 w s g l) (h0 : T0 w0) (t : Int) (ht0 : 0 ≤ t) (ht1 : t < 64) (x : OpR) (k : Nat) (hk : x.k = k) (hcan : canO Ut At l t x = 0) :
    Calls Tryd.prog 9 #[.pointer (some ⟨s, 0, none⟩), .int .i64 t, x.V, .int .i64 0] w fun e w' => e = .returned (.bool true) ∧ ∃ g', St w0 w' s g' (didL Ut At l t x) := by
  refine (YtajcijocjbakbaaDoor.did_yes Ut At s g l t ht0 ht1 x k hk (can_lt hk hcan) hcan w (h.tabs h0) (h.big h0) tabsOk asksOk h.bk).mono ?_
  rintro e w' ⟨he, g', hb, hg, hf⟩
  refine ⟨he, g', hb, h.frm.trans hf (fun j hj hS => ?_), h.low, fun b e => ?_⟩
  · rcases hS with rfl | hS
    · have := h.low; omega
    · have := h.lowg j hS; omega
  · rcases hg with rfl | ⟨-, q, h1, h2⟩
    · exact h.lowg b e
    · rw [h1] at e
      injection e with e
      subst e
      exact Nat.le_trans h.frm.size h2
theorem St.rw (h : St w0 w s g l) (t i : Int) (hi0 : 0 ≤ i) (hi1 : i < 8) : Calls Tryd.prog 13 #[.pointer (some ⟨s, 0, none⟩), .int .i64 t, .int .i64 i] w fun e w' => e = .returned (.int .u8 (md l (t, 1056 + 4 * i))) ∧ w = w' := rw_any s g l t i hi0 hi1 w h.bk
theorem New.st (w : World) : Calls Tryd.prog 6 #[] w fun e w' => e = .returned (.pointer (some ⟨w.heap.size, 0, none⟩)) ∧ St w w' w.heap.size none [] :=
  (new_any w).mono fun _ _ ⟨e, hb, hf⟩ => ⟨e, hb, hf, Nat.le_refl _, fun _ e => by (cases e)⟩
end
/-! ### the chapter's examples -/
abbrev opK (k a : Int) : OpR := ⟨k, a, 0, -1, false, false, 0⟩
def lA : List (Th × Value) := [((2, 1036), .int .u8 3)]
def lB : List (Th × Value) := [((2, 1036), .int .u8 3), ((2, 1056), .int .u8 3)]
def lC : List (Th × Value) := [((2, 1036), .int .u8 3), ((2, 1056), .int .u8 2)]
theorem can1 : canO Ut At [] 2 (opK 2 3) = 4 := by decide
theorem can2 : canO Ut At [] 2 (opK 0 3) = 0 := by decide
theorem did2 : didL Ut At [] 2 (opK 0 3) = lA := by rfl
theorem can3 : canO Ut At lA 2 (opK 2 3) = 0 := by decide
theorem can4 : canO Ut At lA 2 (opK 0 3) = 3 := by decide
theorem can5 : canO Ut At lA 1 (opK 0 3) = 0 := by decide
theorem can6 : canO Ut At lA 2 (opK 9 0) = 0 := by decide
theorem did6 : didL Ut At lA 2 (opK 9 0) = lB := by rfl
theorem can7 : canO Ut At lB 2 (opK 15 0) = 0 := by decide
theorem did7 : didL Ut At lB 2 (opK 15 0) = lC := by rfl
theorem rw8 : md lC (2, 1056 + 4 * 0) = 2 := by decide
theorem can9 : canO Ut At lC 2 (opK 11 0) = 4 := by decide

set_option maxRecDepth 100000 in
set_option maxHeartbeats 4000000 in
theorem lives_any (w0 : World) (h0 : T0 w0) : Calls Tryd.prog 5 #[] w0 fun e w' => e = .returned (.bool true) ∧ Frm w0 w' fun _ => False := by
  have hN := New.st w0
  obtain ⟨s, hs⟩ : ∃ s, w0.heap.size = s := ⟨_, rfl⟩
  rw [hs] at hN
  have K1 : ∀ w g, St w0 w s g [] → Calls Tryd.prog 8 #[.pointer (some ⟨s, 0, none⟩), .int .i64 2, OpR.V (opK 2 3)] w fun e w' => e = .returned (.int .i64 4) ∧ St w0 w' s g [] := fun w g h => by
    have := h.can h0 2 (by decide) (by decide) (opK 2 3) 2 rfl (by decide)
    rw [can1] at this
    exact this
  have K2 : ∀ w g, St w0 w s g [] → Calls Tryd.prog 9 #[.pointer (some ⟨s, 0, none⟩), .int .i64 2, OpR.V (opK 0 3), .int .i64 0] w fun e w' => e = .returned (.bool true) ∧ ∃ g', St w0 w' s g' lA := fun w g h => by
    have := h.did_yes h0 2 (by decide) (by decide) (opK 0 3) 0 rfl can2
    rw [did2] at this
    exact this
  have K3 : ∀ w g, St w0 w s g lA → Calls Tryd.prog 8 #[.pointer (some ⟨s, 0, none⟩), .int .i64 2, OpR.V (opK 2 3)] w fun e w' => e = .returned (.int .i64 0) ∧ St w0 w' s g lA := fun w g h => by
    have := h.can h0 2 (by decide) (by decide) (opK 2 3) 2 rfl (by decide)
    rw [can3] at this
    exact this
  have K4 : ∀ w g, St w0 w s g lA → Calls Tryd.prog 8 #[.pointer (some ⟨s, 0, none⟩), .int .i64 2, OpR.V (opK 0 3)] w fun e w' => e = .returned (.int .i64 3) ∧ St w0 w' s g lA := fun w g h => by
    have := h.can h0 2 (by decide) (by decide) (opK 0 3) 0 rfl (by decide)
    rw [can4] at this
    exact this
  have K5 : ∀ w g, St w0 w s g lA → Calls Tryd.prog 8 #[.pointer (some ⟨s, 0, none⟩), .int .i64 1, OpR.V (opK 0 3)] w fun e w' => e = .returned (.int .i64 0) ∧ St w0 w' s g lA := fun w g h => by
    have := h.can h0 1 (by decide) (by decide) (opK 0 3) 0 rfl (by decide)
    rw [can5] at this
    exact this
  have K6 : ∀ w g, St w0 w s g lA → Calls Tryd.prog 9 #[.pointer (some ⟨s, 0, none⟩), .int .i64 2, OpR.V (opK 9 0), .int .i64 0] w fun e w' => e = .returned (.bool true) ∧ ∃ g', St w0 w' s g' lB := fun w g h => by
    have := h.did_yes h0 2 (by decide) (by decide) (opK 9 0) 9 rfl can6
    rw [did6] at this
    exact this
  have K7 : ∀ w g, St w0 w s g lB → Calls Tryd.prog 9 #[.pointer (some ⟨s, 0, none⟩), .int .i64 2, OpR.V (opK 15 0), .int .i64 0] w fun e w' => e = .returned (.bool true) ∧ ∃ g', St w0 w' s g' lC := fun w g h => by
    have := h.did_yes h0 2 (by decide) (by decide) (opK 15 0) 15 rfl can7
    rw [did7] at this
    exact this
  have K9 : ∀ w g, St w0 w s g lC → Calls Tryd.prog 8 #[.pointer (some ⟨s, 0, none⟩), .int .i64 2, OpR.V (opK 11 0)] w fun e w' => e = .returned (.int .i64 4) ∧ St w0 w' s g lC := fun w g h => by
    have := h.can h0 2 (by decide) (by decide) (opK 11 0) 11 rfl (by decide)
    rw [can9] at this
    exact this
  have K8 : ∀ w g, St w0 w s g lC → Calls Tryd.prog 13 #[.pointer (some ⟨s, 0, none⟩), .int .i64 2, .int .i64 0] w fun e w' => e = .returned (.int .u8 2) ∧ w = w' := fun w g h => by
    have := h.rw 2 0 (by decide) (by decide)
    rw [rw8] at this
    exact this
  clear hs
  go_enter Tryd.func5, Tryd.ntmps5
  go_upto_region 2 with (go_at_call 6; refine hN.mono ?_; rintro e w ⟨rfl, hS⟩; have HS := Lib.hid hS; clear hS hN)
  go_wp2_with (first
    | (go_at_call 15; refine (op_any _ _ _).mono ?_; rintro e w' ⟨rfl, hf⟩; replace HS := Lib.hid (HS.out.new_ hf); clear hf)
    | (go_at_call 8; with_reducible refine (K1 _ _ HS.out).mono ?_; rintro e w' ⟨rfl, hf⟩; replace HS := Lib.hid hf; clear hf)
    | (go_at_call 9; with_reducible refine (K2 _ _ HS.out).mono ?_; rintro e w' ⟨rfl, g', hf⟩; replace HS := Lib.hid hf; clear hf)
    | (go_at_call 8; with_reducible refine (K3 _ _ HS.out).mono ?_; rintro e w' ⟨rfl, hf⟩; replace HS := Lib.hid hf; clear hf)
    | (go_at_call 8; with_reducible refine (K4 _ _ HS.out).mono ?_; rintro e w' ⟨rfl, hf⟩; replace HS := Lib.hid hf; clear hf)
    | (go_at_call 8; with_reducible refine (K5 _ _ HS.out).mono ?_; rintro e w' ⟨rfl, hf⟩; replace HS := Lib.hid hf; clear hf)
    | (go_at_call 9; with_reducible refine (K6 _ _ HS.out).mono ?_; rintro e w' ⟨rfl, g', hf⟩; replace HS := Lib.hid hf; clear hf)
    | (go_at_call 9; with_reducible refine (K7 _ _ HS.out).mono ?_; rintro e w' ⟨rfl, g', hf⟩; replace HS := Lib.hid hf; clear hf)
    | (go_at_call 8; with_reducible refine (K9 _ _ HS.out).mono ?_; rintro e w' ⟨rfl, hf⟩; replace HS := Lib.hid hf; clear hf)
    | (go_at_call 13; with_reducible refine (K8 _ _ HS.out).mono ?_; rintro e w' ⟨rfl, rfl⟩))
  go_ret
  exact ⟨rfl, HS.out.frm⟩
end Go.Proofs.YtajcijocjbakbaaDoor
