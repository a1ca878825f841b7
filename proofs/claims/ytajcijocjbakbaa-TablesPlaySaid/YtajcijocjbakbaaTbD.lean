import Derived.Test.YtajcijocjbakbaaTbC
namespace Go.Proofs.Ytajcijocjbakbaa
open Go.RowKit

/-- A bucket's three cells. -/
theorem TSet.bk {w : World} {B s b : Nat} {ts : List Tb} (h : TSet w B s b ts) {t : Tb} (ht : t ∈ ts) {i : Nat} {k : Bk} (hk : t.bs[i]? = some k) :
    w.cell? ⟨t.g, i * 3, none⟩ = some (.int .u64 k.at_) ∧ w.cell? ⟨t.g, i * 3 + 1, none⟩ = some (.int .u64 k.fired) ∧ w.cell? ⟨t.g, i * 3 + 2, none⟩ = some k.hd.V ∧ (∀ j, w.frozen? ⟨t.g, j, none⟩ = false) := by
  obtain ⟨hi, rfl⟩ := List.getElem?_eq_some_iff.1 hk
  obtain ⟨hs, _⟩ := h.tb t ht
  obtain ⟨hl, hc⟩ := Rd.rows Bk.len (by decide) hs.rd
  obtain ⟨g, off, e, _, hcell⟩ := hc (by omega)
  injection e with e
  injection e with e1 e2
  subst e1 e2
  obtain ⟨g', off', e', _, _, _, hfr⟩ := hs.form (by omega)
  injection e' with e'
  injection e' with e1 e2
  subst e1 e2
  have c0 := hcell i hi 0 _ rfl
  have c1 := hcell i hi 1 _ rfl
  have c2 := hcell i hi 2 _ rfl
  simp only [Nat.zero_add, Nat.add_zero] at c0 c1 c2
  exact ⟨c0, c1, c2, fun j => by have := hfr j; rwa [Nat.zero_add] at this⟩
set_option maxRecDepth 100000 in
theorem queue_in (B s b : Nat) (ts : List Tb) (t : Tb) (k : Bk) (d : Int) (i : Nat) (w : World) (h : TSet w B s b ts) (ht : tget ts d = some t) (hk : t.bs[i]? = some k) (hq : (k.hd.n : Int) ≤ 100000) :
    Calls Try.prog 25 #[.pointer (some ⟨s, 0, none⟩), plV d i] w fun e w' => ∃ A', e = .returned (.slice A' k.hd.n k.hd.n) ∧ Sl w' w.heap.size 3 A' k.hd.n k.hd.n (ens k.q) ∧ Frm w w' fun _ => False := by
  have hi : i < t.bs.length := (List.getElem?_eq_some_iff.1 hk).1
  obtain ⟨hm, _⟩ := tget_some ht
  obtain ⟨-, -, c2, -⟩ := h.bk hm hk
  obtain ⟨hs, -⟩ := h.qs t hm k (List.mem_of_getElem? hk)
  have HAT := Lib.hid (fun V (hf : Frm w V fun _ => False) => at_in B s b ts t d i V (h.new_ hf) ht hi)
  obtain ⟨⟨Ak, nk, ck⟩, hke⟩ : ∃ x, k.hd = x := ⟨_, rfl⟩
  rw [hke] at c2 hs hq
  rw [hke]
  obtain ⟨ql, hql⟩ : ∃ x, k.q = x := ⟨_, rfl⟩
  rw [hql] at hs
  rw [hql]
  have hnil : Ak = none → ck = 0 := fun e => by
    rcases hs.row with ⟨_, h0⟩ | ⟨g, off, hA, _⟩
    · exact h0
    · rw [e] at hA; cases hA
  have HNIL := Lib.hid hnil
  have hle := hs.le
  have S := Lib.hid hs
  obtain ⟨g, hg⟩ : ∃ g, t.g = g := ⟨_, rfl⟩
  rw [hg] at c2 HAT
  have c2 : w.cell? ⟨g, i * 3 + 2, none⟩ = some (.slice Ak nk ck) := c2
  have C2 := Lib.hid c2
  have HQ : Hid ((nk : Int) ≤ 100000) := hq
  clear h ht hk hi hm hs hnil c2 hg hke hql hq
  go_enter Try.func25, Try.ntmps25
  go_wp2_with (first
    | (go_at_call 28; refine (HAT.out _ ((Frm.refl _ _).alloc _)).mono ?_; rintro e w2 ⟨rfl, hf⟩; have F := Lib.hid (((Frm.refl w fun _ => False).alloc (.cells #[.int .i64 d, .int .i64 i] 37)).then_ hf); have c2 := F.out.cell C2.out id; clear hf)
    | (go_at_call 46; refine (own_any Ak nk ck ql _ (S.out.new_ F.out).rd HNIL.out hle HQ.out).mono ?_; rintro e w3 ⟨A', rfl, hs, hf⟩; have S3 := Lib.hid hs; have F3 := Lib.hid hf; clear hs hf))
  go_ret
  exact ⟨A', rfl, S3.out.mono F.out.size, F.out.then_ F3.out⟩
set_option maxRecDepth 100000 in
theorem queue_no (P0 : Option Addr) (d i : Int) (w : World) (h : ∀ V, (Frm w V fun _ => False) → Calls Try.prog 28 #[.pointer P0, plV d i] V fun e w' => e = .returned (.pointer none) ∧ Frm V w' fun _ => False) :
    Calls Try.prog 25 #[.pointer P0, plV d i] w fun e w' => e = .returned (.slice none 0 0) ∧ Frm w w' fun _ => False := by
  have HAT := Lib.hid h
  clear h
  go_enter Try.func25, Try.ntmps25
  go_wp2_with (go_at_call 28; refine (HAT.out _ ((Frm.refl _ _).alloc _)).mono ?_; rintro e w2 ⟨rfl, hf⟩; have F := Lib.hid (((Frm.refl w fun _ => False).alloc (.cells #[.int .i64 d, .int .i64 i] 37)).then_ hf); clear hf)
  go_ret
  exact ⟨rfl, F.out⟩
end Go.Proofs.Ytajcijocjbakbaa
