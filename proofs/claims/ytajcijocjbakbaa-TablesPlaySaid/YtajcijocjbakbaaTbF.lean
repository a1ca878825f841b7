import Derived.Test.YtajcijocjbakbaaTbE
namespace Go.Proofs.Ytajcijocjbakbaa
open Go.RowKit

theorem nodup_inj {α β : Type} {f : α → β} {l : List α} (h : (l.map f).Nodup) {x y : α} (hx : x ∈ l) (hy : y ∈ l) (e : f x = f y) : x = y := by
  induction l with
  | nil => cases hx
  | cons a r ih =>
    rw [List.map_cons, List.nodup_cons] at h
    rcases List.mem_cons.1 hx with ex | hx1
    · rcases List.mem_cons.1 hy with ey | hy1
      · rw [ex, ey]
      · exact absurd (List.mem_map.2 ⟨y, hy1, e.symm.trans (by rw [ex])⟩) h.1
    · rcases List.mem_cons.1 hy with ey | hy1
      · exact absurd (List.mem_map.2 ⟨x, hx1, e.trans (by rw [ey])⟩) h.1
      · exact ih h.2 hx1 hy1
/-- A bucket is put anew. -/
def tput (ts : List Tb) (d : Int) (i : Nat) (k : Bk) : List Tb := ts.map fun t => if t.d = d then { t with bs := t.bs.set i k } else t
theorem TSet.ds {w : World} {B s b : Nat} {ts : List Tb} (h : TSet w B s b ts) : (ts.map (·.d)).Nodup := by
  have := h.map.1
  rwa [List.map_map] at this
theorem TSet.put {w w' : World} {B s b : Nat} {ts : List Tb} (h : TSet w B s b ts) {d : Int} {t : Tb} (ht : tget ts d = some t) {i : Nat} (k : Bk) (hw : Frm w w' fun j => j = t.g)
    (hrow : Sl w' B 3 (some ⟨t.g, 0, none⟩) t.bs.length t.bs.length (bkc (t.bs.set i k))) (hq : Sl w' B 3 k.hd.A k.hd.n k.hd.c (ens k.q)) (hnew : ∀ j, blk k.hd.A j → j ≠ s ∧ j ≠ b ∧ ∀ t' ∈ ts, j ≠ t'.g) (hok : ∀ x ∈ k.q, EnOk x) :
    TSet w' B s b (tput ts d i k) := by
  obtain ⟨hm, hd⟩ := tget_some ht
  obtain ⟨_, hlen, htb, hgs, hgb⟩ := h.tb t hm
  have one : ∀ t0 ∈ ts, t0.d = d → t0 = t := fun t0 h0 e => nodup_inj h.ds h0 hm (e.trans hd.symm)
  have og : ∀ t0 ∈ ts, t0.d ≠ d → t0.g ≠ t.g := fun t0 h0 e hg => e (by rw [nodup_inj h.gs h0 hm hg]; exact hd)
  have cases1 : ∀ t1 ∈ tput ts d i k, t1 = { t with bs := t.bs.set i k } ∨ (t1 ∈ ts ∧ t1.d ≠ d) := fun t1 h1 => by
    obtain ⟨t0, h0, rfl⟩ := List.mem_map.1 h1
    by_cases e : t0.d = d
    · left; rw [if_pos e, one t0 h0 e]
    · right; rw [if_neg e]; exact ⟨h0, e⟩
  have gmem : ∀ j, (∀ t' ∈ ts, j ≠ t'.g) → ∀ t' ∈ tput ts d i k, j ≠ t'.g := fun j hj t1 h1 => by
    rcases cases1 t1 h1 with rfl | ⟨h1, _⟩
    · exact hj t hm
    · exact hj t1 h1
  refine ⟨hw.cell h.ptr (fun e => hgs e.symm), ?_, h.low, ?_, ?_, ?_, ?_⟩
  · have e : (tput ts d i k).map (fun t => (t.d, t.V)) = ts.map fun t => (t.d, t.V) := by
      unfold tput
      rw [List.map_map]
      refine List.map_congr_left fun t0 _ => ?_
      by_cases e : t0.d = d
      · simp [e, Tb.V]
      · simp [e]
    rw [e]
    exact h.map.frm hw (fun e => hgb e.symm)
  · intro t1 h1
    rcases cases1 t1 h1 with rfl | ⟨h1, hne⟩
    · refine ⟨?_, ?_, htb, hgs, hgb⟩
      · simpa using hrow
      · simpa using hlen
    · obtain ⟨a1, a2⟩ := h.tb t1 h1
      exact ⟨a1.frm hw (fun j hj e => by rw [blk_some] at hj; exact og t1 h1 hne (by rw [← hj, e])), a2⟩
  · have e : (tput ts d i k).map (·.g) = ts.map (·.g) := by
      unfold tput
      rw [List.map_map]
      refine List.map_congr_left fun t0 _ => ?_
      by_cases e : t0.d = d
      · simp [e]
      · simp [e]
    rw [e]
    exact h.gs
  · intro t1 h1 k1 hk1
    rcases cases1 t1 h1 with rfl | ⟨h1, hne⟩
    · rcases List.mem_or_eq_of_mem_set hk1 with hk1 | rfl
      · obtain ⟨a1, a2⟩ := h.qs t hm k1 hk1
        exact ⟨a1.frm hw (fun j hj e => (a2 j hj).2.2 t hm e), fun j hj => ⟨(a2 j hj).1, (a2 j hj).2.1, gmem j (a2 j hj).2.2⟩⟩
      · exact ⟨hq, fun j hj => ⟨(hnew j hj).1, (hnew j hj).2.1, gmem j (hnew j hj).2.2⟩⟩
    · obtain ⟨a1, a2⟩ := h.qs t1 h1 k1 hk1
      exact ⟨a1.frm hw (fun j hj e => (a2 j hj).2.2 t hm e), fun j hj => ⟨(a2 j hj).1, (a2 j hj).2.1, gmem j (a2 j hj).2.2⟩⟩
  · intro t1 h1 k1 hk1
    rcases cases1 t1 h1 with rfl | ⟨h1, hne⟩
    · rcases List.mem_or_eq_of_mem_set hk1 with hk1 | rfl
      · exact h.ok t hm k1 hk1
      · exact hok
    · exact h.ok t1 h1 k1 hk1
end Go.Proofs.Ytajcijocjbakbaa
