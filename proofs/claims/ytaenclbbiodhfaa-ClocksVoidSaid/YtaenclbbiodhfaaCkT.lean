import Derived.Test.YtaenclbbiodhfaaCkG
namespace Go.Proofs.Ytaenclbbiodhfaa
open Go.RowKit

theorem Drawn.frm {b now most : Nat} {A : Option Addr} {ds : List Nat} {w w' : World} (h : Drawn b now most A ds w w') : Frm w w' fun k => k = b := by obtain ⟨_, _, _, hf, _⟩ := h; exact hf
theorem Mored.frm {b now most : Nat} {ds : List Nat} {w w' : World} (h : Mored b now most ds w w') : Frm w w' fun k => k = b := by obtain ⟨_, _, _, hf, _⟩ := h; exact hf
/-- The program's clock and the reference's, side by side; both are the call's own. -/
structure Two (w wr : World) (b c : Nat) (A : Option Addr) (cap : Nat) (A' : Option Addr) (cap' : Nat) (n1 n2 most : Nat) (d1 d2 : List Nat) : Prop where
  p : Own w wr b A cap n1 most d1
  r : Own w wr c A' cap' n2 most d2
  ne : ¬ b = c
  nb : ¬ blk A c
  nc : ¬ blk A' b
section
variable {w wr w' : World} {b c cap cap' n1 n2 most : Nat} {A A' : Option Addr} {d1 d2 : List Nat} {S : Nat → Prop}
theorem Own.far {now : Nat} {ds : List Nat} (h : Own w wr b A cap now most ds) (hf : Frm wr w' S) (hb : ¬ S b) (hA : ∀ k, blk A k → ¬ S k) (hS : ∀ k, S k → w.heap.size ≤ k) : Own w w' b A cap now most ds :=
  ⟨h.clk.frm hf hb hA, h.frm.fresh hf hS, h.hb⟩
theorem Two.frm (h : Two w wr b c A cap A' cap' n1 n2 most d1 d2) : Frm w wr fun _ => False := h.p.frm
theorem Two.new_ (h : Two w wr b c A cap A' cap' n1 n2 most d1 d2) (hf : Frm wr w' fun _ => False) : Two w w' b c A cap A' cap' n1 n2 most d1 d2 := ⟨h.p.new_ hf, h.r.new_ hf, h.ne, h.nb, h.nc⟩
theorem Two.store (h : Two w wr b c A cap A' cap' n1 n2 most d1 d2) (hf : Frm wr w' S) (h1 : ¬ S b) (h2 : ¬ S c) (h3 : ∀ k, blk A k → ¬ S k) (h4 : ∀ k, blk A' k → ¬ S k) (hS : ∀ k, S k → w.heap.size ≤ k) : Two w w' b c A cap A' cap' n1 n2 most d1 d2 :=
  ⟨h.p.far hf h1 h3 hS, h.r.far hf h2 h4 hS, h.ne, h.nb, h.nc⟩
theorem Two.tickP (h : Two w wr b c A cap A' cap' n1 n2 most d1 d2) {n : Nat} (hc : Clk w' b A cap n most d1) (hf : Frm wr w' fun k => k = b) : Two w w' b c A cap A' cap' n n2 most d1 d2 :=
  ⟨h.p.tick hc hf, h.r.far hf (fun e => h.ne e.symm) (fun _ hk e => h.nc (e ▸ hk)) (fun _ e => e ▸ h.p.hb), h.ne, h.nb, h.nc⟩
theorem Two.tickR (h : Two w wr b c A cap A' cap' n1 n2 most d1 d2) {n : Nat} (hc : Clk w' c A' cap' n most d2) (hf : Frm wr w' fun k => k = c) : Two w w' b c A cap A' cap' n1 n most d1 d2 :=
  ⟨h.p.far hf h.ne (fun _ hk e => h.nb (e ▸ hk)) (fun _ e => e ▸ h.r.hb), h.r.tick hc hf, h.ne, h.nb, h.nc⟩
theorem Two.drawP (h : Two w wr b c A cap A' cap' n1 n2 most d1 d2) {ds : List Nat} (hd : Drawn b n1 most A ds wr w') : ∃ A2 cap2, Two w w' b c A2 cap2 A' cap' n1 n2 most ds d2 := by
  obtain ⟨A2, cap2, hc, hf, hA⟩ := hd
  exact ⟨A2, cap2, ⟨hc, h.p.frm.fresh hf (fun j hj => hj ▸ h.p.hb), h.p.hb⟩, h.r.far hf (fun e => h.ne e.symm) (fun _ hk e => h.nc (e ▸ hk)) (fun _ e => e ▸ h.p.hb), h.ne, fun k => h.nb (hA _ k), h.nc⟩
theorem Two.drawR (h : Two w wr b c A cap A' cap' n1 n2 most d1 d2) {ds : List Nat} (hd : Drawn c n2 most A' ds wr w') : ∃ A2 cap2, Two w w' b c A cap A2 cap2 n1 n2 most d1 ds := by
  obtain ⟨A2, cap2, hc, hf, hA⟩ := hd
  exact ⟨A2, cap2, h.p.far hf h.ne (fun _ hk e => h.nb (e ▸ hk)) (fun _ e => e ▸ h.r.hb), ⟨hc, h.r.frm.fresh hf (fun j hj => hj ▸ h.r.hb), h.r.hb⟩, h.ne, h.nb, fun k => h.nc (hA _ k)⟩
theorem Two.moreP (h : Two w wr b c A cap A' cap' n1 n2 most d1 d2) {ds : List Nat} (hd : Mored b n1 most ds wr w') : ∃ A2 cap2, Two w w' b c A2 cap2 A' cap' n1 n2 most ds d2 ∧ ∀ k, blk A2 k → wr.heap.size ≤ k := by
  obtain ⟨A2, cap2, hc, hf, hA⟩ := hd
  exact ⟨A2, cap2, ⟨⟨hc, h.p.frm.fresh hf (fun j hj => hj ▸ h.p.hb), h.p.hb⟩, h.r.far hf (fun e => h.ne e.symm) (fun _ hk e => h.nc (e ▸ hk)) (fun _ e => e ▸ h.p.hb), h.ne, fun k => by have := hA _ k; have := h.r.clk.lt; omega, h.nc⟩, hA⟩
theorem Two.moreR (h : Two w wr b c A cap A' cap' n1 n2 most d1 d2) {ds : List Nat} (hd : Mored c n2 most ds wr w') : ∃ A2 cap2, Two w w' b c A cap A2 cap2 n1 n2 most d1 ds ∧ ∀ k, blk A2 k → wr.heap.size ≤ k := by
  obtain ⟨A2, cap2, hc, hf, hA⟩ := hd
  exact ⟨A2, cap2, ⟨h.p.far hf h.ne (fun _ hk e => h.nb (e ▸ hk)) (fun _ e => e ▸ h.r.hb), ⟨hc, h.r.frm.fresh hf (fun j hj => hj ▸ h.r.hb), h.r.hb⟩, h.ne, h.nb, fun k => by have := hA _ k; have := h.p.clk.lt; omega⟩, hA⟩
/-- The reference's clock made behind the program's. -/
theorem Two.mk_ {now : Nat} {ds ds' : List Nat} {v : Value} (h : Own w wr b A cap now most ds) (hn : Newed most ds' wr w' v) : ∃ c A' cap', v = .pointer (some ⟨c, 0, none⟩) ∧ Two w w' b c A cap A' cap' now 0 most ds ds' ∧ wr.heap.size ≤ c ∧ ∀ k, blk A' k → wr.heap.size ≤ k := by
  obtain ⟨c, A', cap', rfl, hc, hf, hcl, hA⟩ := hn
  have hb := h.clk.lt
  exact ⟨c, A', cap', rfl, ⟨h.new_ hf, ⟨hc, h.frm.then_ hf, Nat.le_trans h.frm.size hcl⟩, by omega, fun k => by have := (h.clk.sl.ge k).2; omega, fun k => by have := hA _ k; omega⟩, hcl, hA⟩
end
end Go.Proofs.Ytaenclbbiodhfaa
