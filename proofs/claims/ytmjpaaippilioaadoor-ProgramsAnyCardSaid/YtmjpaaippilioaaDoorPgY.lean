import Derived.Test.YtmjpaaippilioaaDoorPgXL
import Derived.Test.YtmjpaaippilioaaDoorPgXU
import Derived.Test.YtmjpaaippilioaaDoorPgXC
import Derived.Test.YtmjpaaippilioaaDoorPgXW
import Derived.Test.YtmjpaaippilioaaDoorPgXN
namespace Go.Proofs.YtmjpaaippilioaaDoor
open Go.RowKit Go.MapKept

/-! ### the table as it is laid -/
def usesL : List Use := [
  ⟨⟨#[108, 111, 99, 107]⟩, 1024, 0, true, ⟨#[]⟩, false, 0⟩,
  ⟨⟨#[116, 114, 121]⟩, 1024, 0, false, ⟨#[]⟩, false, 0⟩,
  ⟨⟨#[117, 110, 108, 111, 99, 107]⟩, 1024, 0, false, ⟨#[102, 97, 105, 114]⟩, false, 0⟩,
  ⟨⟨#[114, 101, 97, 100]⟩, 1056, 0, true, ⟨#[]⟩, false, 0⟩,
  ⟨⟨#[116, 114, 121, 114, 101, 97, 100]⟩, 1056, 0, false, ⟨#[]⟩, false, 0⟩,
  ⟨⟨#[117, 110, 114, 101, 97, 100]⟩, 1056, 0, false, ⟨#[]⟩, false, 0⟩,
  ⟨⟨#[117, 112, 103, 114]⟩, 1056, 0, true, ⟨#[]⟩, false, 0⟩,
  ⟨⟨#[116, 114, 121, 117, 112, 103, 114]⟩, 1056, 0, false, ⟨#[]⟩, false, 0⟩,
  ⟨⟨#[117, 110, 117, 112, 103, 114]⟩, 1056, 0, false, ⟨#[102, 97, 105, 114]⟩, false, 0⟩,
  ⟨⟨#[119, 114, 105, 116, 101]⟩, 1056, 0, true, ⟨#[]⟩, false, 0⟩,
  ⟨⟨#[116, 114, 121, 119, 114, 105, 116, 101]⟩, 1056, 0, false, ⟨#[]⟩, false, 0⟩,
  ⟨⟨#[117, 110, 119, 114, 105, 116, 101]⟩, 1056, 0, false, ⟨#[102, 97, 105, 114]⟩, false, 0⟩,
  ⟨⟨#[117, 112]⟩, 1056, 0, true, ⟨#[]⟩, false, 0⟩,
  ⟨⟨#[116, 114, 121, 117, 112]⟩, 1056, 0, false, ⟨#[]⟩, false, 0⟩,
  ⟨⟨#[100, 111, 119, 110]⟩, 1056, 0, false, ⟨#[]⟩, false, 0⟩,
  ⟨⟨#[115, 111, 102, 116]⟩, 1056, 0, false, ⟨#[]⟩, false, 0⟩,
  ⟨⟨#[108, 111, 111, 115, 101]⟩, 1056, 0, false, ⟨#[]⟩, false, 0⟩,
  ⟨⟨#[119, 97, 105, 116]⟩, 1088, 1024, true, ⟨#[]⟩, false, 0⟩,
  ⟨⟨#[110, 111, 116, 105, 102, 121]⟩, 1088, 0, false, ⟨#[]⟩, false, 0⟩,
  ⟨⟨#[110, 111, 116, 105, 102, 121, 97, 108, 108]⟩, 1088, 0, false, ⟨#[]⟩, false, 0⟩,
  ⟨⟨#[100, 111]⟩, 1120, 0, false, ⟨#[102, 111, 114, 99, 101]⟩, true, 16⟩,
  ⟨⟨#[112, 97, 114, 107]⟩, 1152, 0, true, ⟨#[]⟩, false, 256⟩,
  ⟨⟨#[111, 110, 101]⟩, 1152, 0, false, ⟨#[]⟩, false, 256⟩,
  ⟨⟨#[97, 108, 108]⟩, 1152, 0, false, ⟨#[]⟩, false, 256⟩,
  ⟨⟨#[115, 111, 109, 101]⟩, 1152, 0, false, ⟨#[]⟩, false, 256⟩,
  ⟨⟨#[114, 101, 113, 117, 101, 117, 101]⟩, 1152, 1152, false, ⟨#[]⟩, false, 5⟩]
def Ut (k : Nat) : Use := usesL.getD k ⟨⟨#[]⟩, 0, 0, false, ⟨#[]⟩, false, 0⟩
theorem tabsOk : TabsOk Ut := ⟨by decide, by decide⟩
/-! ### the next operation of a tidy program -/
def nextO (l : List Th) (k : Nat) (t a o : Int) : Option (List Th) :=
  match k with
  | 0 => if 0 ≤ t ∨ a ≤ great l then none else some (addK l (a, 0))
  | 3 => if 0 ≤ t ∨ a ≤ great l then none else some (addK l (a, 3))
  | 6 => if 0 ≤ t ∨ a ≤ great l then none else some (addK l (a, 6))
  | 9 => if 0 ≤ t ∨ a ≤ great l then none else some (addK l (a, 9))
  | 2 => if (a, (0 : Int)) ∈ l then some (delK l (a, 0)) else none
  | 5 => if (a, (3 : Int)) ∈ l then some (delK l (a, 3)) else none
  | 8 => if (a, (6 : Int)) ∈ l then some (delK l (a, 6)) else none
  | 11 => if (a, (9 : Int)) ∈ l then some (delK l (a, 9)) else none
  | 14 => if (a, (9 : Int)) ∈ l then some (addK (delK l (a, 9)) (a, 3)) else none
  | 15 => if (a, (9 : Int)) ∈ l then some (addK (delK l (a, 9)) (a, 6)) else none
  | 16 => if (a, (6 : Int)) ∈ l then some (addK (delK l (a, 6)) (a, 3)) else none
  | 17 => if 0 ≤ t ∧ (o, (0 : Int)) ∈ l ∧ great l = o then some l else none
  | 21 => if 0 ≤ t then some l else none
  | 1 => none
  | 4 => none
  | 7 => none
  | 10 => none
  | 12 => none
  | 13 => none
  | _ => some l
def givesL : List (Int × Int) := [(0, 0), (0, 0), (0, 2), (0, 0), (0, 0), (3, 5), (0, 0), (0, 0), (6, 8), (0, 0), (0, 0), (9, 11), (0, 0), (0, 0), (9, 3), (9, 6), (6, 3)]
/-- The table 'gives' lies as it was laid. -/
def Gives (w : World) : Prop := ∀ k (hk : k < givesL.length) , w.cell? ⟨4, k * 2 + 0, none⟩ = some (.int .u8 givesL[k].1) ∧ w.cell? ⟨4, k * 2 + 1, none⟩ = some (.int .u8 givesL[k].2)
theorem Gives.frm {w w' : World} {S : Nat → Prop} (h : Gives w) (hf : Frm w w' S) (hS : ¬ S 4) : Gives w' := fun k hk => ⟨hf.cell (h k hk).1 hS, hf.cell (h k hk).2 hS⟩
set_option maxHeartbeats 4000000 in
theorem next_any (b : Nat) (l : List Th) (hb : ∀ k ∈ l, 0 ≤ k.1 ∧ k.1 ≤ 131072) (x : OpR) (k : Nat) (hk : x.k = k) (hk26 : k < 26) (w : World) (h : MpS w th2V b (oneV l)) (hs2 : 4 < b) (hT : Tabs w Ut) (h0 : 4 < w.heap.size) (hG : Gives w) :
    Nx b x (nextO l k x.t (addrO Ut x).1 (addrO Ut x).2).isSome ((nextO l k x.t (addrO Ut x).1 (addrO Ut x).2).getD l) w := by
  have hA : ∀ v, (Frm w v fun _ => False) → Calls Tryd.prog 44 #[x.V] v fun e w' => e = .returned (.tuple #[.int .u32 (addrO Ut x).1, .int .u32 (addrO Ut x).2]) ∧ Frm v w' fun _ => False := fun v hv =>
    addr_any Ut x k hk (by omega) v (hT.new_ hv) (by have := hv.size; omega) tabsOk
  obtain ⟨a, ha⟩ : ∃ a, (addrO Ut x).1 = a := ⟨_, rfl⟩
  obtain ⟨o, ho⟩ : ∃ a, (addrO Ut x).2 = a := ⟨_, rfl⟩
  rw [ha, ho] at hA ⊢
  obtain ⟨xk, xa, xo, xt, xfl, xfa, xg⟩ := x
  have hk : xk = k := hk
  clear ha ho hT h0
  match k, hk26, hk with
  | 0, _, hk =>
    have hk : xk = 0 := by simpa using hk
    subst hk
    by_cases h1 : 0 ≤ xt
    · have e : nextO l 0 xt a o = none := if_pos (.inl h1)
      simp only [e, Option.isSome_none, Option.getD_none]
      exact nx0_late b l hb xa xo xt xfl xfa xg a o w h hs2 hA h1
    · by_cases h2 : a ≤ great l
      · have e : nextO l 0 xt a o = none := if_pos (.inr h2)
        simp only [e, Option.isSome_none, Option.getD_none]
        exact nx0_low b l hb xa xo xt xfl xfa xg a o w h hs2 hA h1 h2
      · have e : nextO l 0 xt a o = some (addK l (a, 0)) := if_neg (fun h => h.elim h1 h2)
        simp only [e, Option.isSome_some, Option.getD_some]
        exact nx0_yes b l hb xa xo xt xfl xfa xg a o w h hs2 hA h1 h2
  | 1, _, hk =>
    have hk : xk = 1 := by simpa using hk
    subst hk
    have e : nextO l 1 xt a o = none := rfl
    simp only [e, Option.isSome_none, Option.getD_none]
    exact nx1 b l hb xa xo xt xfl xfa xg a o w h hs2 hA
  | 2, _, hk =>
    have hk : xk = 2 := by simpa using hk
    subst hk
    by_cases h1 : (a, (0 : Int)) ∈ l
    · have e : nextO l 2 xt a o = some (delK l (a, 0)) := if_pos h1
      simp only [e, Option.isSome_some, Option.getD_some]
      exact nx2_yes b l hb xa xo xt xfl xfa xg a o w h hs2 (hG 2 (by decide)).1 (hG 2 (by decide)).2 hA h1
    · have e : nextO l 2 xt a o = none := if_neg h1
      simp only [e, Option.isSome_none, Option.getD_none]
      exact nx2_no b l hb xa xo xt xfl xfa xg a o w h hs2 (hG 2 (by decide)).1 (hG 2 (by decide)).2 hA h1
  | 3, _, hk =>
    have hk : xk = 3 := by simpa using hk
    subst hk
    by_cases h1 : 0 ≤ xt
    · have e : nextO l 3 xt a o = none := if_pos (.inl h1)
      simp only [e, Option.isSome_none, Option.getD_none]
      exact nx3_late b l hb xa xo xt xfl xfa xg a o w h hs2 hA h1
    · by_cases h2 : a ≤ great l
      · have e : nextO l 3 xt a o = none := if_pos (.inr h2)
        simp only [e, Option.isSome_none, Option.getD_none]
        exact nx3_low b l hb xa xo xt xfl xfa xg a o w h hs2 hA h1 h2
      · have e : nextO l 3 xt a o = some (addK l (a, 3)) := if_neg (fun h => h.elim h1 h2)
        simp only [e, Option.isSome_some, Option.getD_some]
        exact nx3_yes b l hb xa xo xt xfl xfa xg a o w h hs2 hA h1 h2
  | 4, _, hk =>
    have hk : xk = 4 := by simpa using hk
    subst hk
    have e : nextO l 4 xt a o = none := rfl
    simp only [e, Option.isSome_none, Option.getD_none]
    exact nx4 b l hb xa xo xt xfl xfa xg a o w h hs2 hA
  | 5, _, hk =>
    have hk : xk = 5 := by simpa using hk
    subst hk
    by_cases h1 : (a, (3 : Int)) ∈ l
    · have e : nextO l 5 xt a o = some (delK l (a, 3)) := if_pos h1
      simp only [e, Option.isSome_some, Option.getD_some]
      exact nx5_yes b l hb xa xo xt xfl xfa xg a o w h hs2 (hG 5 (by decide)).1 (hG 5 (by decide)).2 hA h1
    · have e : nextO l 5 xt a o = none := if_neg h1
      simp only [e, Option.isSome_none, Option.getD_none]
      exact nx5_no b l hb xa xo xt xfl xfa xg a o w h hs2 (hG 5 (by decide)).1 (hG 5 (by decide)).2 hA h1
  | 6, _, hk =>
    have hk : xk = 6 := by simpa using hk
    subst hk
    by_cases h1 : 0 ≤ xt
    · have e : nextO l 6 xt a o = none := if_pos (.inl h1)
      simp only [e, Option.isSome_none, Option.getD_none]
      exact nx6_late b l hb xa xo xt xfl xfa xg a o w h hs2 hA h1
    · by_cases h2 : a ≤ great l
      · have e : nextO l 6 xt a o = none := if_pos (.inr h2)
        simp only [e, Option.isSome_none, Option.getD_none]
        exact nx6_low b l hb xa xo xt xfl xfa xg a o w h hs2 hA h1 h2
      · have e : nextO l 6 xt a o = some (addK l (a, 6)) := if_neg (fun h => h.elim h1 h2)
        simp only [e, Option.isSome_some, Option.getD_some]
        exact nx6_yes b l hb xa xo xt xfl xfa xg a o w h hs2 hA h1 h2
  | 7, _, hk =>
    have hk : xk = 7 := by simpa using hk
    subst hk
    have e : nextO l 7 xt a o = none := rfl
    simp only [e, Option.isSome_none, Option.getD_none]
    exact nx7 b l hb xa xo xt xfl xfa xg a o w h hs2 hA
  | 8, _, hk =>
    have hk : xk = 8 := by simpa using hk
    subst hk
    by_cases h1 : (a, (6 : Int)) ∈ l
    · have e : nextO l 8 xt a o = some (delK l (a, 6)) := if_pos h1
      simp only [e, Option.isSome_some, Option.getD_some]
      exact nx8_yes b l hb xa xo xt xfl xfa xg a o w h hs2 (hG 8 (by decide)).1 (hG 8 (by decide)).2 hA h1
    · have e : nextO l 8 xt a o = none := if_neg h1
      simp only [e, Option.isSome_none, Option.getD_none]
      exact nx8_no b l hb xa xo xt xfl xfa xg a o w h hs2 (hG 8 (by decide)).1 (hG 8 (by decide)).2 hA h1
  | 9, _, hk =>
    have hk : xk = 9 := by simpa using hk
    subst hk
    by_cases h1 : 0 ≤ xt
    · have e : nextO l 9 xt a o = none := if_pos (.inl h1)
      simp only [e, Option.isSome_none, Option.getD_none]
      exact nx9_late b l hb xa xo xt xfl xfa xg a o w h hs2 hA h1
    · by_cases h2 : a ≤ great l
      · have e : nextO l 9 xt a o = none := if_pos (.inr h2)
        simp only [e, Option.isSome_none, Option.getD_none]
        exact nx9_low b l hb xa xo xt xfl xfa xg a o w h hs2 hA h1 h2
      · have e : nextO l 9 xt a o = some (addK l (a, 9)) := if_neg (fun h => h.elim h1 h2)
        simp only [e, Option.isSome_some, Option.getD_some]
        exact nx9_yes b l hb xa xo xt xfl xfa xg a o w h hs2 hA h1 h2
  | 10, _, hk =>
    have hk : xk = 10 := by simpa using hk
    subst hk
    have e : nextO l 10 xt a o = none := rfl
    simp only [e, Option.isSome_none, Option.getD_none]
    exact nx10 b l hb xa xo xt xfl xfa xg a o w h hs2 hA
  | 11, _, hk =>
    have hk : xk = 11 := by simpa using hk
    subst hk
    by_cases h1 : (a, (9 : Int)) ∈ l
    · have e : nextO l 11 xt a o = some (delK l (a, 9)) := if_pos h1
      simp only [e, Option.isSome_some, Option.getD_some]
      exact nx11_yes b l hb xa xo xt xfl xfa xg a o w h hs2 (hG 11 (by decide)).1 (hG 11 (by decide)).2 hA h1
    · have e : nextO l 11 xt a o = none := if_neg h1
      simp only [e, Option.isSome_none, Option.getD_none]
      exact nx11_no b l hb xa xo xt xfl xfa xg a o w h hs2 (hG 11 (by decide)).1 (hG 11 (by decide)).2 hA h1
  | 12, _, hk =>
    have hk : xk = 12 := by simpa using hk
    subst hk
    have e : nextO l 12 xt a o = none := rfl
    simp only [e, Option.isSome_none, Option.getD_none]
    exact nx12 b l hb xa xo xt xfl xfa xg a o w h hs2 hA
  | 13, _, hk =>
    have hk : xk = 13 := by simpa using hk
    subst hk
    have e : nextO l 13 xt a o = none := rfl
    simp only [e, Option.isSome_none, Option.getD_none]
    exact nx13 b l hb xa xo xt xfl xfa xg a o w h hs2 hA
  | 14, _, hk =>
    have hk : xk = 14 := by simpa using hk
    subst hk
    by_cases h1 : (a, (9 : Int)) ∈ l
    · have e : nextO l 14 xt a o = some (addK (delK l (a, 9)) (a, 3)) := if_pos h1
      simp only [e, Option.isSome_some, Option.getD_some]
      exact nx14_yes b l hb xa xo xt xfl xfa xg a o w h hs2 (hG 14 (by decide)).1 (hG 14 (by decide)).2 hA h1
    · have e : nextO l 14 xt a o = none := if_neg h1
      simp only [e, Option.isSome_none, Option.getD_none]
      exact nx14_no b l hb xa xo xt xfl xfa xg a o w h hs2 (hG 14 (by decide)).1 (hG 14 (by decide)).2 hA h1
  | 15, _, hk =>
    have hk : xk = 15 := by simpa using hk
    subst hk
    by_cases h1 : (a, (9 : Int)) ∈ l
    · have e : nextO l 15 xt a o = some (addK (delK l (a, 9)) (a, 6)) := if_pos h1
      simp only [e, Option.isSome_some, Option.getD_some]
      exact nx15_yes b l hb xa xo xt xfl xfa xg a o w h hs2 (hG 15 (by decide)).1 (hG 15 (by decide)).2 hA h1
    · have e : nextO l 15 xt a o = none := if_neg h1
      simp only [e, Option.isSome_none, Option.getD_none]
      exact nx15_no b l hb xa xo xt xfl xfa xg a o w h hs2 (hG 15 (by decide)).1 (hG 15 (by decide)).2 hA h1
  | 16, _, hk =>
    have hk : xk = 16 := by simpa using hk
    subst hk
    by_cases h1 : (a, (6 : Int)) ∈ l
    · have e : nextO l 16 xt a o = some (addK (delK l (a, 6)) (a, 3)) := if_pos h1
      simp only [e, Option.isSome_some, Option.getD_some]
      exact nx16_yes b l hb xa xo xt xfl xfa xg a o w h hs2 (hG 16 (by decide)).1 (hG 16 (by decide)).2 hA h1
    · have e : nextO l 16 xt a o = none := if_neg h1
      simp only [e, Option.isSome_none, Option.getD_none]
      exact nx16_no b l hb xa xo xt xfl xfa xg a o w h hs2 (hG 16 (by decide)).1 (hG 16 (by decide)).2 hA h1
  | 17, _, hk =>
    have hk : xk = 17 := by simpa using hk
    subst hk
    by_cases h1 : 0 ≤ xt
    · by_cases h2 : (o, (0 : Int)) ∈ l
      · by_cases h3 : great l = o
        · have e : nextO l 17 xt a o = some l := if_pos ⟨h1, h2, h3⟩
          simp only [e, Option.isSome_some, Option.getD_some]
          exact nx17_yes b l hb xa xo xt xfl xfa xg a o w h hs2 hA h1 h2 h3
        · have e : nextO l 17 xt a o = none := if_neg (fun h => h3 h.2.2)
          simp only [e, Option.isSome_none, Option.getD_none]
          exact nx17_low b l hb xa xo xt xfl xfa xg a o w h hs2 hA h1 h2 h3
      · have e : nextO l 17 xt a o = none := if_neg (fun h => h2 h.2.1)
        simp only [e, Option.isSome_none, Option.getD_none]
        exact nx17_no b l hb xa xo xt xfl xfa xg a o w h hs2 hA h1 h2
    · have e : nextO l 17 xt a o = none := if_neg (fun h => h1 h.1)
      simp only [e, Option.isSome_none, Option.getD_none]
      exact nx17_late b l hb xa xo xt xfl xfa xg a o w h hs2 hA h1
  | 18, _, hk =>
    have hk : xk = 18 := by simpa using hk
    subst hk
    have e : nextO l 18 xt a o = some l := rfl
    simp only [e, Option.isSome_some, Option.getD_some]
    exact nx18 b l hb xa xo xt xfl xfa xg a o w h hs2 hA
  | 19, _, hk =>
    have hk : xk = 19 := by simpa using hk
    subst hk
    have e : nextO l 19 xt a o = some l := rfl
    simp only [e, Option.isSome_some, Option.getD_some]
    exact nx19 b l hb xa xo xt xfl xfa xg a o w h hs2 hA
  | 20, _, hk =>
    have hk : xk = 20 := by simpa using hk
    subst hk
    have e : nextO l 20 xt a o = some l := rfl
    simp only [e, Option.isSome_some, Option.getD_some]
    exact nx20 b l hb xa xo xt xfl xfa xg a o w h hs2 hA
  | 21, _, hk =>
    have hk : xk = 21 := by simpa using hk
    subst hk
    by_cases h1 : 0 ≤ xt
    · have e : nextO l 21 xt a o = some l := if_pos h1
      simp only [e, Option.isSome_some, Option.getD_some]
      exact nx21_yes b l hb xa xo xt xfl xfa xg a o w h hs2 hA h1
    · have e : nextO l 21 xt a o = none := if_neg h1
      simp only [e, Option.isSome_none, Option.getD_none]
      exact nx21_late b l hb xa xo xt xfl xfa xg a o w h hs2 hA h1
  | 22, _, hk =>
    have hk : xk = 22 := by simpa using hk
    subst hk
    have e : nextO l 22 xt a o = some l := rfl
    simp only [e, Option.isSome_some, Option.getD_some]
    exact nx22 b l hb xa xo xt xfl xfa xg a o w h hs2 hA
  | 23, _, hk =>
    have hk : xk = 23 := by simpa using hk
    subst hk
    have e : nextO l 23 xt a o = some l := rfl
    simp only [e, Option.isSome_some, Option.getD_some]
    exact nx23 b l hb xa xo xt xfl xfa xg a o w h hs2 hA
  | 24, _, hk =>
    have hk : xk = 24 := by simpa using hk
    subst hk
    have e : nextO l 24 xt a o = some l := rfl
    simp only [e, Option.isSome_some, Option.getD_some]
    exact nx24 b l hb xa xo xt xfl xfa xg a o w h hs2 hA
  | 25, _, hk =>
    have hk : xk = 25 := by simpa using hk
    subst hk
    have e : nextO l 25 xt a o = some l := rfl
    simp only [e, Option.isSome_some, Option.getD_some]
    exact nx25 b l hb xa xo xt xfl xfa xg a o w h hs2 hA
  | n + 26, h26, _ => exact absurd h26 (by omega)
end Go.Proofs.YtmjpaaippilioaaDoor
