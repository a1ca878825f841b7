import Derived.Test.YtllicaibgjjidaaDoorNtC
import Derived.Deep.MidRow
namespace Go.Proofs.YtllicaibgjjidaaDoor
open Go.RowKit

def kA (n : Nat) : Array Value := ((List.range n).map fun i => Value.string (nm i)).toArray
/-- The names so far laid. -/
def kf (m : Nat) (j : Nat) : Value := if j < m then .string (nm j) else .string ⟨#[]⟩
def kg (m : Nat) (j : Nat) : Value := if j < 6 then .string (nm j) else if 16 ≤ j ∧ j < 16 + m then .string (nm j) else .string ⟨#[]⟩
structure KS (w wr : World) (s n : Nat) (f g : Nat → Value) : Prop where
  frm : Frm w wr fun _ => False
  res : Var wr w.heap.size 38 (fun _ => .string ⟨#[]⟩)
  nms : Var wr (w.heap.size + 1) 38 f
  src : Var wr s n g
  lt : w.heap.size + 2 ≤ s
theorem KS.set {w wr : World} {s n : Nat} {f f' g : Nat → Value} (h : KS w wr s n f g) {i : Nat} (hi : i < 38) (v : Value) (hf : ∀ j, (if j = i then v else f j) = f' j) : KS w (wr.setCell ⟨w.heap.size + 1, i, none⟩ v) s n f' g := by
  have e : (fun j => if j = i then v else f j) = f' := funext hf
  refine ⟨h.frm.setCell (p := ⟨w.heap.size + 1, i, none⟩) (fun h => by simp at h; omega) v, h.res.far (p := ⟨w.heap.size + 1, i, none⟩) (by simp) v, ?_, h.src.far (p := ⟨w.heap.size + 1, i, none⟩) (by have := h.lt; simp; omega) v, h.lt⟩
  rw [← e]; exact h.nms.set hi v
def lz : Array Value := Array.replicate 38 (.string ⟨#[]⟩)
def l5 : Array Value := ((List.range 5).map fun i => Value.string (nm (i + 1))).toArray
def l22 : Array Value := ((List.range 22).map fun i => Value.string (nm (i + 16))).toArray
theorem lz_get (i : Nat) (hi : i < 38) : lz[i]? = some (.string ⟨#[]⟩) := by simp [lz, hi]
theorem l5_get (i : Nat) (hi : i < 5) : l5[i]? = some (.string (nm (i + 1))) := by simp [l5, hi]
theorem l22_get (i : Nat) (hi : i < 22) : l22[i]? = some (.string (nm (i + 16))) := by simp [l22, hi]
theorem kf_one (j : Nat) : kf 1 j = .string ⟨#[]⟩ := by
  unfold kf; split
  · obtain rfl : j = 0 := by omega
    rfl
  · rfl
theorem KS.first (w : World) {Z L : Array Value} (hZ : Z = lz) (hL : L = l5) : KS w (((w.alloc (.cells Z 56)).alloc (.cells Z 56)).alloc (.cells L 59)) (w.heap.size + 2) 5 (kf 1) (fun j => .string (nm (j + 1))) := by
  subst hZ hL
  refine ⟨by (repeat (first | exact Frm.refl _ _ | apply Frm.drew | apply Frm.drewN | apply Frm.alloc)), ?_, ?_, ?_, Nat.le_refl _⟩
  · exact Var.alloc (Var.alloc (Var.new w _ _ fun i hi => lz_get i hi) _) _
  · have := Var.new (n := 38) (f := kf 1) (w.alloc (.cells lz 56)) 56 lz (fun i hi => by rw [kf_one]; exact lz_get i hi)
    simpa using this.alloc _
  · have := Var.new (n := 5) (f := fun j => .string (nm (j + 1))) ((w.alloc (.cells lz 56)).alloc (.cells lz 56)) 59 l5 l5_get
    simpa using this
theorem there_new (w : World) (t : TypeId) (Z : Array Value) {n : Nat} (h : n ≤ Z.size) : (w.alloc (.cells Z t)).there w.heap.size 0 n := fun j hj => by
  rw [Nat.zero_add]
  exact ⟨by rw [World.cell?_alloc_new, Array.getElem?_eq_getElem (by omega)]; rfl, World.frozen?_alloc_new w Z t _⟩
theorem l22_len : l22.toList.length = 22 := by simp [l22]
theorem KS.second {w wr : World} {s n : Nat} {f g : Nat → Value} (h : KS w wr s n f g) (Z : Array Value) {L : List Value} (hZ : 22 ≤ Z.size) (hL : L = l22.toList) : KS w ((wr.alloc (.cells Z 60)).setCells wr.heap.size 0 L) wr.heap.size 22 f (fun j => .string (nm (j + 16))) := by
  subst hL
  have k : Frm (wr.alloc (.cells Z 60)) ((wr.alloc (.cells Z 60)).setCells wr.heap.size 0 l22.toList) (fun k => k = wr.heap.size) := setCells_frm _ _ _ _
  have h1 := h.res.lt
  have h2 := h.nms.lt
  have h3 := h.frm.size
  refine ⟨(h.frm.alloc _).trans k fun j hj e => by omega, (h.res.alloc _).frm k (by omega), (h.nms.alloc _).frm k (by omega), ⟨fun i hi => ?_, fun i => ?_, ?_⟩, ?_⟩
  · have := World.cell?_setCells_in wr.heap.size l22.toList 0 (wr.alloc (.cells Z 60)) (fun i hi => by rw [l22_len] at hi; exact (there_new wr 60 Z hZ i hi).1) i (by rw [l22_len]; exact hi)
    rw [Nat.zero_add] at this
    rw [this, ← l22_get i hi]
    simp
  · rw [World.frozen?_setCells]; exact World.frozen?_alloc_new wr Z 60 _
  · have := k.size; simp at this; omega
  · have := h.src.lt; have := h.lt; omega
theorem kg_zero : kf 6 = kg 0 := by
  funext j; unfold kf kg
  by_cases h : j < 6
  · rw [if_pos h, if_pos h]
  · rw [if_neg h, if_neg h, if_neg (by omega)]
theorem kg_all : ∀ j, j < 38 → kg 22 j = .string (nm j) := by
  intro j hj; unfold kg
  by_cases h : j < 6
  · rw [if_pos h]
  · rw [if_neg h]
    by_cases h2 : 16 ≤ j
    · rw [if_pos ⟨h2, by omega⟩]
    · rw [if_neg (by omega)]
      have : ∀ j, j < 16 → 6 ≤ j → (⟨#[]⟩ : ByteArray) = nm j := by
        intro j h1 h2
        rcases (show j = 6 ∨ j = 7 ∨ j = 8 ∨ j = 9 ∨ j = 10 ∨ j = 11 ∨ j = 12 ∨ j = 13 ∨ j = 14 ∨ j = 15 by omega) with rfl | rfl | rfl | rfl | rfl | rfl | rfl | rfl | rfl | rfl <;> rfl
      rw [this j (by omega) (by omega)]
theorem kA_get (j : Nat) (hj : j < 38) : (kA 38).toList[j]? = some (.string (nm j)) := by simp [kA, hj]
theorem kA_len : (kA 38).toList.length = 38 := by simp [kA]
theorem ks_cells {wr : World} {r : Nat} {f : Nat → Value} (h : Var wr r 38 f) (j : Nat) (hj : j < 38) : (wr.setCells r 0 (kA 38).toList).cell? ⟨r, j, none⟩ = some (.string (nm j)) := by
  have := World.cell?_setCells_in r (kA 38).toList 0 wr (fun i hi => by rw [kA_len] at hi; rw [Nat.zero_add, h.cell i hi]; rfl) j (by rw [kA_len]; exact hj)
  rw [Nat.zero_add] at this
  rw [this, ← kA_get j hj, List.getElem?_eq_getElem]
theorem ks_range {wr : World} {r : Nat} (h : Var wr r 38 (kg 22)) : wr.rangeAt r 0 (kA 38).toList := by
  intro j v hv
  have hj : j < 38 := by have := (List.getElem?_eq_some_iff.1 hv).1; rwa [kA_len] at this
  rw [kA_get j hj] at hv
  rw [Nat.zero_add, h.cell j hj, kg_all j hj, hv]
theorem ks_there {wr : World} {r : Nat} {f : Nat → Value} (h : Var wr r 38 f) : wr.there r 0 (kA 38).size := by
  intro j hj
  have hj : j < 38 := by have := kA_len; simp at this; omega
  rw [Nat.zero_add]
  exact ⟨by rw [h.cell j hj]; rfl, h.free j⟩
theorem ks_one : (kA 38).all (·.oneCell') = true := by kernel_rfl
theorem ks_results {wr : World} {r : Nat} (tmps : Array Value) (h : wr.rangeAt r 0 (kA 38).toList) (hp : tmps.getD 0 undef = .pointer (some ⟨r, 0, none⟩)) : (results Tryd.f22 tmps).run Tryd.prog wr = .ok (.agg (kA 38)) wr := by
  have hp' : tmps[0]?.getD undef = .pointer (some ⟨r, 0, none⟩) := by simpa using hp
  have hl := run_loadVar_mid (P := Tryd.prog) wr r 0 56 (kA 38).toList _ h Tryd.underlying56 rfl (by kernel_rfl)
  simp at hl
  simp [results, Tryd.results22, hp', asAddr, hl]
theorem ks_end {w wr : World} (h : Frm w wr fun _ => False) : Frm w (wr.setCells w.heap.size 0 (kA 38).toList) fun _ => False :=
  h.trans (setCells_frm wr w.heap.size 0 _) fun j hj e => by omega
set_option maxRecDepth 100000 in
set_option maxHeartbeats 4000000 in
theorem kinds_any (w : World) : Calls Tryd.prog 22 #[] w fun e w' => e = .returned (.agg (kA 38)) ∧ Frm w w' fun _ => False := by
  go_enter Tryd.func22, Tryd.ntmps22
  go_wp2_with fail
  go_loopw [3] (fun i wr => ∃ k : Nat, i = .int .i64 k ∧ k ≤ 5 ∧ KS w wr (w.heap.size + 2) 5 (kf (k + 1)) (fun j => .string (nm (j + 1)))) (fun i _ => 5 - (intOf i).toNat)
  case atStart => exact ⟨0, rfl, by omega, KS.first w (by kernel_rfl) (by kernel_rfl)⟩
  case round =>
    obtain ⟨k, rfl, hk, hS⟩ := hrel
    by_cases hlt : k < 5
    · have c1 := hS.src.cell k hlt
      have c2 := hS.nms.cell (k + 1) (by omega)
      have c3 := hS.nms.free (k + 1)
      have HS := Lib.hid hS
      have i0 : (0 : Int) ≤ (k : Int) := by omega
      have i1 : (k : Int) < 5 := by omega
      have i2 : (0 : Int) ≤ 1 + (k : Int) := by omega
      have i3 : 1 + (k : Int) < 38 := by omega
      have i4 : (1 + (k : Int)).toNat = k + 1 := by omega
      clear hS
      go_wp2_with fail
      go_roundw
      case rel =>
        refine ⟨k + 1, by go_num, by omega, HS.out.set (i := k + 1) (by omega) _ fun j => ?_⟩
        unfold kf
        by_cases h : j = k + 1
        · subst h; simp
        · simp only [h, if_false]
          by_cases h' : j < k + 1
          · rw [if_pos h', if_pos (by omega)]
          · rw [if_neg h', if_neg (by omega)]
      case measure => simp [intOf]; omega
    · obtain rfl : k = 5 := by omega
      have hS2 : Hid (∀ Z L, 22 ≤ Array.size Z → L = l22.toList → KS w ((wr.alloc (.cells Z 60)).setCells wr.heap.size 0 L) wr.heap.size 22 (kg 0) (fun j => .string (nm (j + 16)))) := by rw [← kg_zero]; exact fun Z L hZ hL => hS.second Z hZ hL
      clear hS hlt
      go_wp2_with (refine wpList_store_mid rfl 60 (.tmp 4) (.tmp 17) rfl wr.heap.size 0 _ rfl rfl (there_new wr 60 _ (by simp)) (by kernel_rfl) (by kernel_rfl) ?_)
      obtain ⟨wo, rfl⟩ : ∃ wo : World, wo = wr := ⟨_, rfl⟩
      go_loopw [5] (fun i wr => ∃ k : Nat, i = .int .i64 k ∧ k ≤ 22 ∧ KS w wr wo.heap.size 22 (kg k) (fun j => .string (nm (j + 16)))) (fun i _ => 22 - (intOf i).toNat)
      case atStart => exact ⟨0, rfl, by omega, hS2.out _ _ (by simp) (by kernel_rfl)⟩
      case round =>
        obtain ⟨k, rfl, hk, hS⟩ := hrel
        by_cases hlt : k < 22
        · have c1 := hS.src.cell k hlt
          have c2 := hS.nms.cell (k + 16) (by omega)
          have c3 := hS.nms.free (k + 16)
          have HS := Lib.hid hS
          have i0 : (0 : Int) ≤ (k : Int) := by omega
          have i1 : (k : Int) < 22 := by omega
          have i2 : (0 : Int) ≤ 16 + (k : Int) := by omega
          have i3 : 16 + (k : Int) < 38 := by omega
          have i4 : (16 + (k : Int)).toNat = k + 16 := by omega
          clear hS
          go_wp2_with fail
          go_roundw
          case rel =>
            refine ⟨k + 1, by go_num, by omega, HS.out.set (i := k + 16) (by omega) _ fun j => ?_⟩
            unfold kg
            by_cases h : j = k + 16
            · subst h; rw [if_pos rfl, if_neg (by omega), if_pos (by omega)]
            · rw [if_neg h]
              by_cases h' : j < 6
              · rw [if_pos h', if_pos h']
              · rw [if_neg h', if_neg h']
                by_cases h2 : 16 ≤ j ∧ j < 16 + k
                · rw [if_pos h2, if_pos (by omega)]
                · rw [if_neg h2, if_neg (by omega)]
          case measure => simp [intOf]; omega
        · obtain rfl : k = 22 := by omega
          have HS := Lib.hid hS
          have hr : wr.rangeAt (w.heap.size + 1) 0 (kA 38).toList := ks_range hS.nms
          have ht : wr.there w.heap.size 0 (kA 38).size := ks_there hS.res
          have h1 : (kA 38).all (·.oneCell') = true := ks_one
          clear hS hS2
          go_wp2_with (first | (refine wpList_load_mid rfl 56 (.tmp 1) rfl (w.heap.size + 1) 0 rfl (kA 38).toList _ hr Tryd.underlying56 rfl (by kernel_rfl) ?_) | (refine wpList_store_mid rfl 56 (.tmp 0) (.tmp 28) rfl w.heap.size 0 (kA 38) rfl rfl ht (by kernel_rfl) h1 ?_))
          refine bodyPost_ret (v := .agg (kA 38)) ?_ rfl ⟨rfl, ks_end HS.out.frm⟩
          exact ks_results _ (World.rangeAt_setCells_same wr w.heap.size 0 _ (by simpa using ht)) rfl
end Go.Proofs.YtllicaibgjjidaaDoor
