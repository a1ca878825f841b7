import Derived.Test.YtajcijocjbakbaaTbL
namespace Go.Proofs.Ytajcijocjbakbaa
open Go.RowKit

/-! ### a table's buckets put anew -/
def tbs (ts : List Tb) (d : Int) (bs : List Bk) : List Tb := ts.map fun t => if t.d = d then { t with bs := bs } else t
theorem tget_tbs {ts : List Tb} {d : Int} {t : Tb} (bs : List Bk) (h : tget ts d = some t) : tget (tbs ts d bs) d = some { t with bs := bs } := by
  unfold tget tbs at *
  induction ts with
  | nil => cases h
  | cons a r ih =>
    by_cases e : a.d = d
    · rw [List.find?_cons_of_pos (by simpa using e)] at h
      injection h with h
      subst h
      rw [List.map_cons, List.find?_cons_of_pos (by simp [e])]
      simp [e]
    · rw [List.find?_cons_of_neg (by simpa using e)] at h
      rw [List.map_cons, if_neg e, List.find?_cons_of_neg (by simpa using e)]
      exact ih h
theorem tget_tbs_ne {ts : List Tb} {d d' : Int} (bs : List Bk) (h : d' ≠ d) : tget (tbs ts d bs) d' = tget ts d' := by
  unfold tget tbs
  induction ts with
  | nil => rfl
  | cons a r ih =>
    by_cases e : a.d = d
    · rw [List.map_cons, if_pos e, List.find?_cons_of_neg (by simp [e]; exact fun x => h x.symm), List.find?_cons_of_neg (by simp [e]; exact fun x => h x.symm)]
      exact ih
    · rw [List.map_cons, if_neg e]
      by_cases e2 : a.d = d'
      · rw [List.find?_cons_of_pos (by simpa using e2), List.find?_cons_of_pos (by simpa using e2)]
      · rw [List.find?_cons_of_neg (by simpa using e2), List.find?_cons_of_neg (by simpa using e2)]
        exact ih
theorem TSet.bss {w w' : World} {B s b : Nat} {ts : List Tb} (h : TSet w B s b ts) {d : Int} {t : Tb} (ht : tget ts d = some t) (bs : List Bk) (hw : Frm w w' fun j => j = t.g)
    (hrow : Sl w' B 3 (some ⟨t.g, 0, none⟩) t.bs.length t.bs.length (bkc bs)) (hlen : bs.length = t.bs.length)
    (hb : ∀ k ∈ bs, (∃ k0 ∈ t.bs, k.hd = k0.hd ∧ k.q = k0.q) ∨ (k.hd = ⟨none, 0, 0⟩ ∧ k.q = [])) :
    TSet w' B s b (tbs ts d bs) := by
  obtain ⟨hm, hd⟩ := tget_some ht
  obtain ⟨_, hle, htb, hgs, hgb⟩ := h.tb t hm
  have one : ∀ t0 ∈ ts, t0.d = d → t0 = t := fun t0 h0 e => nodup_inj h.ds h0 hm (e.trans hd.symm)
  have og : ∀ t0 ∈ ts, t0.d ≠ d → t0.g ≠ t.g := fun t0 h0 e hg => e (by rw [nodup_inj h.gs h0 hm hg]; exact hd)
  have cases1 : ∀ t1 ∈ tbs ts d bs, t1 = { t with bs := bs } ∨ (t1 ∈ ts ∧ t1.d ≠ d) := fun t1 h1 => by
    obtain ⟨t0, h0, rfl⟩ := List.mem_map.1 h1
    by_cases e : t0.d = d
    · left; rw [if_pos e, one t0 h0 e]
    · right; rw [if_neg e]; exact ⟨h0, e⟩
  have gmem : ∀ j, (∀ t' ∈ ts, j ≠ t'.g) → ∀ t' ∈ tbs ts d bs, j ≠ t'.g := fun j hj t1 h1 => by
    rcases cases1 t1 h1 with rfl | ⟨h1, _⟩
    · exact hj t hm
    · exact hj t1 h1
  refine ⟨hw.cell h.ptr (fun e => hgs e.symm), ?_, h.low, ?_, ?_, ?_, ?_⟩
  · have e : (tbs ts d bs).map (fun t => (t.d, t.V)) = ts.map fun t => (t.d, t.V) := by
      unfold tbs
      rw [List.map_map]
      refine List.map_congr_left fun t0 h0 => ?_
      by_cases e : t0.d = d
      · obtain rfl := one t0 h0 e
        simp [e, Tb.V, hlen]
      · simp [e]
    rw [e]
    exact h.map.frm hw (fun e => hgb e.symm)
  · intro t1 h1
    rcases cases1 t1 h1 with rfl | ⟨h1, hne⟩
    · exact ⟨by show Sl _ _ _ _ bs.length bs.length _; rw [hlen]; exact hrow, by show bs.length = _; rw [hlen]; exact hle, htb, hgs, hgb⟩
    · obtain ⟨a1, a2⟩ := h.tb t1 h1
      exact ⟨a1.frm hw (fun j hj e => by rw [blk_some] at hj; exact og t1 h1 hne (by rw [← hj, e])), a2⟩
  · have e : (tbs ts d bs).map (·.g) = ts.map (·.g) := by
      unfold tbs
      rw [List.map_map]
      refine List.map_congr_left fun t0 _ => ?_
      by_cases e : t0.d = d
      · simp [e]
      · simp [e]
    rw [e]
    exact h.gs
  · intro t1 h1 k1 hk1
    rcases cases1 t1 h1 with rfl | ⟨h1, hne⟩
    · rcases hb k1 hk1 with ⟨k0, hk0, e1, e2⟩ | ⟨e1, e2⟩
      · obtain ⟨a1, a2⟩ := h.qs t hm k0 hk0
        rw [e1, e2]
        exact ⟨a1.frm hw (fun j hj e => (a2 j hj).2.2 t hm e), fun j hj => ⟨(a2 j hj).1, (a2 j hj).2.1, gmem j (a2 j hj).2.2⟩⟩
      · rw [e1, e2]
        exact ⟨Sl.nil _ _ _, fun j hj => absurd hj (blk_none j)⟩
    · obtain ⟨a1, a2⟩ := h.qs t1 h1 k1 hk1
      exact ⟨a1.frm hw (fun j hj e => (a2 j hj).2.2 t hm e), fun j hj => ⟨(a2 j hj).1, (a2 j hj).2.1, gmem j (a2 j hj).2.2⟩⟩
  · intro t1 h1 k1 hk1
    rcases cases1 t1 h1 with rfl | ⟨h1, hne⟩
    · rcases hb k1 hk1 with ⟨k0, hk0, e1, e2⟩ | ⟨e1, e2⟩
      · rw [e2]; exact h.ok t hm k0 hk0
      · rw [e2]; intro x hx; cases hx
    · exact h.ok t1 h1 k1 hk1
/-- One more table. -/
theorem TSet.add {w w' : World} {B s b : Nat} {ts : List Tb} (h : TSet w B s b ts) (t : Tb) (ht : tget ts t.d = none) (hw : Frm w w' fun j => j = b)
    (hm : MpK w' (fun k : Int => Value.int .i64 k) b ((ts ++ [t]).map fun t => (t.d, t.V)))
    (hrow : Sl w' B 3 (some ⟨t.g, 0, none⟩) t.bs.length t.bs.length (bkc t.bs)) (hlen : t.bs.length = sz t.d) (htb : tbl t.d = true) (hg : w.heap.size ≤ t.g)
    (hq : ∀ k ∈ t.bs, Sl w' B 3 k.hd.A k.hd.n k.hd.c (ens k.q) ∧ (∀ j, blk k.hd.A j → w.heap.size ≤ j ∧ j ≠ t.g) ∧ ∀ x ∈ k.q, EnOk x) : TSet w' B s b (ts ++ [t]) := by
  have hlt : ∀ j, TOwn s b ts j → j < w.heap.size := fun j hj => (h.lt hj).2
  have hsl := hlt s (.inl rfl)
  have hbl := hlt b (.inr (.inl rfl))
  have hgl : ∀ t' ∈ ts, t'.g < w.heap.size := fun t' h' => hlt _ (.inr (.inr (.inl ⟨t', h', rfl⟩)))
  refine ⟨hw.cell h.ptr h.low.2.2, hm, h.low, ?_, ?_, ?_, ?_⟩
  · intro t1 h1
    rcases List.mem_append.1 h1 with h1 | h1
    · obtain ⟨a1, a2⟩ := h.tb t1 h1
      exact ⟨a1.frm hw (fun j hj e => by rw [blk_some] at hj; exact a2.2.2.2 (by rw [← hj, e])), a2⟩
    · obtain rfl := List.mem_singleton.1 h1
      exact ⟨hrow, hlen, htb, by omega, by omega⟩
  · rw [List.map_append, List.nodup_append]
    refine ⟨h.gs, by simp, fun a ha c hc e => ?_⟩
    obtain ⟨t0, h0, rfl⟩ := List.mem_map.1 ha
    simp at hc
    have := hgl t0 h0
    omega
  · intro t1 h1 k hk
    rcases List.mem_append.1 h1 with h1 | h1
    · obtain ⟨a1, a2⟩ := h.qs t1 h1 k hk
      refine ⟨a1.frm hw (fun j hj e => (a2 j hj).2.1 e), fun j hj => ⟨(a2 j hj).1, (a2 j hj).2.1, fun t' h' => ?_⟩⟩
      rcases List.mem_append.1 h' with h' | h'
      · exact (a2 j hj).2.2 t' h'
      · obtain rfl := List.mem_singleton.1 h'
        have := (a1.ge hj).2
        omega
    · obtain rfl := List.mem_singleton.1 h1
      obtain ⟨a1, a2, _⟩ := hq k hk
      refine ⟨a1, fun j hj => ?_⟩
      obtain ⟨b1, b2⟩ := a2 j hj
      refine ⟨by omega, by omega, fun t' h' => ?_⟩
      rcases List.mem_append.1 h' with h' | h'
      · have := hgl t' h'; omega
      · obtain rfl := List.mem_singleton.1 h'
        exact b2
  · intro t1 h1 k hk
    rcases List.mem_append.1 h1 with h1 | h1
    · exact h.ok t1 h1 k hk
    · obtain rfl := List.mem_singleton.1 h1
      exact (hq k hk).2.2
end Go.Proofs.Ytajcijocjbakbaa
