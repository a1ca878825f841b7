import Derived.Test.YtajcijocjbakbaaTdD
import Derived.Test.YtajcijocjbakbaaTdH
import Derived.Test.YtajcijocjbakbaaTdI
import Derived.Test.YtajcijocjbakbaaTdJ
namespace Go.Proofs.Ytajcijocjbakbaa
open Go.RowKit

/-! ### the document's set, by what is seen of it; both sets -/
def VEn (v : List Vt) : Prop := ∀ d bs, vget v d = some bs → ∀ k ∈ bs, ∀ x ∈ k.2.2, EnOk x
structure RV (w : World) (B s : Nat) (O : Nat → Prop) (v : List Vt) : Prop where
  ex : ∃ T, RSet w B s T v ∧ ∀ j, ROwn s T j → O j
section
variable {w w' : World} {B s : Nat} {O S : Nat → Prop} {v : List Vt}
theorem SetV.en (h : SetV w B s O v) : VEn v := by
  obtain ⟨b, ts, hT, rfl, hO⟩ := h.ex
  intro d bs hg k hk x hx
  rw [vget_vw] at hg
  cases ht : tget ts d with
  | none => rw [ht] at hg; cases hg
  | some t =>
    rw [ht] at hg
    injection hg with hg
    subst hg
    obtain ⟨k0, h0, rfl⟩ := List.mem_map.1 hk
    exact hT.ok t (tget_some ht).1 k0 h0 x hx
theorem RV.frm (h : RV w B s O v) (hf : Frm w w' S) (hS : ∀ j, O j → ¬ S j) : RV w' B s O v := by
  obtain ⟨T, hT, hO⟩ := h.ex
  exact ⟨T, hT.frm hf fun j hj => hS j (hO j hj), hO⟩
theorem RV.new_ (h : RV w B s O v) (hf : Frm w w' fun _ => False) : RV w' B s O v := h.frm hf fun _ _ => id
theorem RV.sub {O' : Nat → Prop} (h : RV w B s O v) (hO' : ∀ j, B ≤ j → j < w.heap.size → O j → O' j) : RV w B s O' v := by
  obtain ⟨T, hT, hO⟩ := h.ex
  exact ⟨T, hT, fun j hj => hO' j (hT.lt hj).1 (hT.lt hj).2 (hO j hj)⟩
theorem rhas_v (h : RV w B s O v) (d : Int) : Calls Try.prog 45 #[.pointer (some ⟨s, 0, none⟩), .int .i64 d] w fun e w' => e = .returned (.bool (vget v d).isSome) ∧ w = w' := by
  obtain ⟨T, hT, hO⟩ := h.ex
  exact rhas_any B s T v d w hT
theorem rqueue_v (h : RV w B s O v) (d i : Int) : Calls Try.prog 43 #[.pointer (some ⟨s, 0, none⟩), plV d i] w fun e w' => ∃ A c, e = .returned (.slice A (vq v d i).length c) ∧ Rd w' w'.heap.size 3 A (vq v d i).length (ens (vq v d i)) ∧ Frm w w' fun _ => False := by
  obtain ⟨T, hT, hO⟩ := h.ex
  exact rqueue_any B s T v d i w hT
theorem rtimer_v (h : RV w B s O v) (d i : Int) : Calls Try.prog 44 #[.pointer (some ⟨s, 0, none⟩), plV d i] w fun e w' => e = .returned (tmV (vtm v d i).1 (vtm v d i).2) ∧ Frm w w' fun _ => False := by
  obtain ⟨T, hT, hO⟩ := h.ex
  exact rtimer_any B s T v d i w hT
theorem rplaces_v (h : RV w B s O v) (hv : VFew v) (th : Int) : Calls Try.prog 21 #[.pointer (some ⟨s, 0, none⟩), .int .i64 th] w fun e w' => ∃ A n c, e = .returned (.slice A n c) ∧ Sl w' w.heap.size 2 A n c (plc (pls th v)) ∧ Frm w w' fun _ => False := by
  obtain ⟨T, hT, hO⟩ := h.ex
  exact rplaces_any B s T v th w hT hv
theorem rput_v (h : RV w B s O v) (d i : Int) (X : Option Addr) (n c : Nat) (xs : List En) (hr : Rd w w.heap.size 3 X n (ens xs)) (hn : n ≤ 1000) :
    Calls Try.prog 37 #[.pointer (some ⟨s, 0, none⟩), plV d i, .slice X n c] w fun e w' => e = .returned (.bool (vk v d i).isSome) ∧ RV w' B s (fun j => O j ∨ w.heap.size ≤ j) (vputq v d i xs) ∧ Frm w w' O := by
  obtain ⟨T, hT, hO⟩ := h.ex
  refine (rput_any B s T v d i X n c xs w hT hr hn).mono ?_
  rintro _ w' ⟨rfl, ⟨T', hT', hO'⟩, hf⟩
  exact ⟨rfl, ⟨T', hT', fun j hj => (hO' j hj).imp_left (hO j)⟩, hf.mono fun j _ hj => hO j hj⟩
theorem rputTimer_v (h : RV w B s O v) (d i a f : Int) :
    Calls Try.prog 39 #[.pointer (some ⟨s, 0, none⟩), plV d i, tmV a f] w fun e w' => e = .returned (.bool (vk v d i).isSome) ∧ RV w' B s O (vputt v d i a f) ∧ Frm w w' O := by
  obtain ⟨T, hT, hO⟩ := h.ex
  refine (rputTimer_any B s T v d i a f w hT).mono ?_
  rintro _ w' ⟨rfl, hT', hf⟩
  exact ⟨rfl, ⟨T, hT', hO⟩, hf.mono fun j _ hj => hO j hj⟩
theorem rnew_v (now : Int) (w : World) : Calls Try.prog 18 #[.int .u64 now] w fun e w' => ∃ s, e = .returned (.pointer (some ⟨s, 0, none⟩)) ∧ RV w' w.heap.size s (fun j => w.heap.size ≤ j) (vnew now) ∧ Frm w w' fun _ => False := by
  refine (rnew_any now w).mono ?_
  rintro _ w' ⟨s, T, rfl, hT, hf⟩
  exact ⟨s, rfl, ⟨T, hT, fun j hj => (hT.lt hj).1⟩, hf⟩
theorem rgrow_v (h : RV w B s O v) (hv : VFew v) (hen : VEn v) (d e now : Int) :
    Calls Try.prog 41 #[.pointer (some ⟨s, 0, none⟩), .int .i64 d, .int .i64 e, .int .u64 now] w fun r w' => r = .returned (.bool (vcan v d e)) ∧ RV w' B s (fun j => O j ∨ w.heap.size ≤ j) (vgrow v d e now) ∧ Frm w w' O := by
  obtain ⟨T, hT, hO⟩ := h.ex
  cases hc : vcan v d e with
  | true =>
    have hc0 := hc
    unfold vcan at hc
    simp at hc
    obtain ⟨⟨⟨h1, h2⟩, h3⟩, h4⟩ := hc
    obtain ⟨bs, hg⟩ := Option.isSome_iff_exists.1 h1
    have hd := (tbl_iff d).1 (hT.ok d bs hg).1
    have he := (tbl_iff e).1 h4
    obtain ⟨n, rfl⟩ : ∃ n : Nat, d = n := ⟨d.toNat, by omega⟩
    obtain ⟨m, rfl⟩ : ∃ m : Nat, e = m := ⟨e.toNat, by omega⟩
    refine (rgrow_yes B s T v n m bs now w hT hv (hen n bs hg) hg h2 (by omega) (by omega)).mono ?_
    rintro _ w' ⟨rfl, ⟨T', hT', hO'⟩, hf⟩
    exact ⟨rfl, ⟨T', hT', fun j hj => (hO' j hj).imp_left (hO j)⟩, hf.mono fun j _ hj => hO j hj⟩
  | false =>
    have hv' : vgrow v d e now = v := by unfold vgrow; rw [hc]; rfl
    rw [hv']
    have hno : (vget v d).isSome = false ∨ e ≤ d ∨ 8 < e ∨ (vget v e).isSome = true := by
      cases h1 : (vget v d).isSome with
      | false => exact .inl rfl
      | true =>
        right
        by_cases h2 : e ≤ d
        · exact .inl h2
        · right
          by_cases h3 : 8 < e
          · exact .inl h3
          · right
            cases h4 : (vget v e).isSome with
            | true => rfl
            | false =>
              exfalso
              obtain ⟨bs, hg⟩ := Option.isSome_iff_exists.1 h1
              have hd := (tbl_iff d).1 (hT.ok d bs hg).1
              have ht : tbl e = true := (tbl_iff e).2 (by omega)
              unfold vcan at hc
              rw [h1, h4, ht] at hc
              simp at hc
              omega
    refine (rgrow_no (some ⟨s, 0, none⟩) d e now w _ _ (rhas_any B s T v d w hT) (rhas_any B s T v e w hT) hno).mono ?_
    rintro _ _ ⟨rfl, rfl⟩
    exact ⟨rfl, ⟨T, hT, fun j hj => .inl (hO j hj)⟩, Frm.refl _ _⟩
end
/-- Both sets, apart from one another. -/
structure Both (w : World) (B sp sr : Nat) (Op Or : Nat → Prop) (v : List Vt) : Prop where
  p : SetV w B sp Op v
  r : RV w B sr Or v
  dj : ∀ j, Op j → ¬ Or j
end Go.Proofs.Ytajcijocjbakbaa
