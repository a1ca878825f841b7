import Derived.Test.YtajcijocjbakbaaTbF
namespace Go.Proofs.Ytajcijocjbakbaa
open Go.RowKit

theorem bkc_set2 (l : List Bk) (i : Nat) (k : Bk) (h : Hd) (q : List En) (hk : l[i]? = some k) : (bkc l).set (i * 3 + 2) h.V = bkc (l.set i ⟨k.at_, k.fired, h, q⟩) := by
  induction l generalizing i with
  | nil => cases hk
  | cons a r ih =>
    cases i with
    | zero =>
      injection hk with hk
      subst hk
      rfl
    | succ i =>
      have h1 := ih i (by simpa using hk)
      show (a.V ++ bkc r).set _ _ = a.V ++ bkc (r.set i _)
      rw [← h1, List.set_append_right _ _ (by show 3 ≤ _; omega)]
      congr 2
      show (i + 1) * 3 + 2 - 3 = _
      omega
set_option maxRecDepth 100000 in
theorem put_in (B s b : Nat) (ts : List Tb) (t : Tb) (k : Bk) (d : Int) (i : Nat) (X : Option Addr) (n c : Nat) (xs : List En) (w : World) (h : TSet w B s b ts) (ht : tget ts d = some t) (hk : t.bs[i]? = some k)
    (hr : Rd w w.heap.size 3 X n (ens xs)) (hX : X = none → c = 0) (hnc : n ≤ c) (hn : (n : Int) ≤ 100000) (hok : ∀ x ∈ xs, EnOk x) :
    Calls Try.prog 23 #[.pointer (some ⟨s, 0, none⟩), plV d i, .slice X n c] w fun e w' => ∃ A', e = .returned (.bool true) ∧ TSet w' B s b (tput ts d i ⟨k.at_, k.fired, ⟨A', n, n⟩, xs⟩) ∧ (∀ j, blk A' j → w.heap.size ≤ j) ∧ Frm w w' fun j => j = t.g := by
  have hi : i < t.bs.length := (List.getElem?_eq_some_iff.1 hk).1
  obtain ⟨hm, _⟩ := tget_some ht
  obtain ⟨-, -, c2, fz⟩ := h.bk hm hk
  have HAT := Lib.hid (fun V (hf : Frm w V fun _ => False) => at_in B s b ts t d i V (h.new_ hf) ht hi)
  have HOWN := Lib.hid (fun V (hf : Frm w V fun _ => False) => own_any X n c xs V (hr.new_ hf) hX hnc hn)
  have HT := Lib.hid h
  have HTT := Lib.hid ht
  have HK := Lib.hid hk
  have HM := Lib.hid hm
  have HOK := Lib.hid hok
  obtain ⟨g, hg⟩ : ∃ g, t.g = g := ⟨_, rfl⟩
  have HG := Lib.hid hg
  have fz2 := fz (i * 3 + 2)
  rw [hg] at c2 fz2 HAT
  obtain ⟨kv, hkv⟩ : ∃ v, k.hd.V = v := ⟨_, rfl⟩
  rw [hkv] at c2
  have HC := Lib.hid (And.intro c2 fz2)
  rw [hg]
  clear h ht hk hi hm c2 fz fz2 hg hkv hr hX hnc hn hok
  go_enter Try.func23, Try.ntmps23
  go_wp2_with (first
    | (go_at_call 28; refine (HAT.out _ ((Frm.refl _ _).alloc _)).mono ?_; rintro e w2 ⟨rfl, hf⟩; have F := Lib.hid (((Frm.refl w fun _ => False).alloc (.cells #[.int .i64 d, .int .i64 i] 37)).then_ hf); clear hf)
    | (go_at_call 46; refine (HOWN.out _ F.out).mono ?_; rintro e w3 ⟨A', rfl, hs, hf⟩; have S3 := Lib.hid hs; have F3 := Lib.hid (F.out.then_ hf); have c2 := F3.out.cell HC.out.1 id; have fz2 := (F3.out.frozen (p := ⟨g, i * 3 + 2, none⟩) (World.block_lt_of_cell? _ _ HC.out.1) id).trans HC.out.2; have HSZ := Lib.hid F.out.size; clear hs hf))
  go_ret
  have hT3 := HT.out.new_ F3.out
  obtain ⟨hrow, _⟩ := hT3.tb t HM.out
  have hset := hrow.set (j := i * 3 + 2) (by rw [hrow.len]; have := (List.getElem?_eq_some_iff.1 HK.out).1; omega) (.slice A' n n)
  rw [Nat.zero_add, HG.out] at hset
  have e2 := bkc_set2 t.bs i k ⟨A', n, n⟩ xs HK.out
  have hge : ∀ j, blk A' j → w.heap.size ≤ j := fun j hj => Nat.le_trans HSZ.out (S3.out.ge hj).1
  have hlt : ∀ j, TOwn s b ts j → j < w.heap.size := fun j hj => (HT.out.lt hj).2
  have hB : B ≤ w.heap.size := Nat.le_trans HT.out.low.1 (Nat.le_of_lt (hlt s (.inl rfl)))
  have hgl : g < w.heap.size := by rw [← HG.out]; exact hlt _ (.inr (.inr (.inl ⟨t, HM.out, rfl⟩)))
  refine ⟨A', rfl, hT3.put HTT.out ⟨k.at_, k.fired, ⟨A', n, n⟩, xs⟩ ?_ ?_ ?_ ?_ HOK.out, hge, ?_⟩
  · rw [HG.out]; exact (Frm.refl _ (fun j => j = g)).setCell (p := ⟨g, i * 3 + 2, none⟩) (fun _ => rfl) _
  · rw [← e2, HG.out]; exact hset
  · exact (S3.out.mono (Nat.le_trans hB HSZ.out)).setCell (p := ⟨g, i * 3 + 2, none⟩) (fun hb => by have := hge g hb; omega) _
  · intro j hj
    have h1 := hge j hj
    exact ⟨fun e => by have := hlt s (.inl rfl); omega, fun e => by have := hlt b (.inr (.inl rfl)); omega, fun t' ht' e => by have := hlt t'.g (.inr (.inr (.inl ⟨t', ht', rfl⟩))); omega⟩
  · exact (F3.out.none_ (fun j => j = g)).setCell (p := ⟨g, i * 3 + 2, none⟩) (fun _ => rfl) _
end Go.Proofs.Ytajcijocjbakbaa
