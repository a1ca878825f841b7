import Derived.Test.YtaenclbbiodhfaaCkE
import Derived.Test.YtaenclbbiodhfaaRng
namespace Go.Proofs.Ytaenclbbiodhfaa
open Go.RowKit

/-- Bytes as cells. -/
def by_ (l : List Nat) : List Value := l.map fun n => .int .u8 (n : Nat)
theorem by_len (l : List Nat) : (by_ l).length = l.length := List.length_map _
theorem Rd.by_ {w : World} {B n : Nat} {A : Option Addr} {xs : List Nat} (h : Rd w B 1 A n (by_ xs)) : n = xs.length ∧ (0 < n → ∃ g off, A = some ⟨g, off, none⟩ ∧ g < B ∧ ∀ i (hi : i < xs.length), w.cell? ⟨g, off + i, none⟩ = some (.int .u8 (xs[i] : Nat))) := by
  have hl := h.1
  rw [by_len, Nat.mul_one] at hl
  refine ⟨hl.symm, fun hp => ?_⟩
  obtain ⟨g, off, e, hb, hc⟩ := h.2 (by rw [by_len]; omega)
  exact ⟨g, off, e, hb, fun i hi => hc i _ (by unfold Go.Proofs.Ytaenclbbiodhfaa.by_; rw [List.getElem?_map, List.getElem?_eq_getElem hi]; rfl)⟩
/-- A command: its kind and its number. -/
structure Cm where
  k : Nat
  n : Nat
/-- The first command, and how many bytes it takes. -/
def cmd1 : List Nat → Cm × Nat
  | [] => (⟨0, 0⟩, 0)
  | b :: r => if b < 192 then (⟨0, b⟩, 1) else if b < 224 then (⟨1, b - 191⟩, 1) else
    match r with
    | [] => (⟨2, 256 * (b - 224)⟩, 1)
    | m :: _ => (⟨2, 256 * (b - 224) + m⟩, 2)
theorem cmd1_pick {b : Nat} (r : List Nat) (h : b < 192) : cmd1 (b :: r) = (⟨0, b⟩, 1) := by simp [cmd1, h]
theorem cmd1_tick {b : Nat} (r : List Nat) (h : ¬ b < 192) (h2 : b < 224) : cmd1 (b :: r) = (⟨1, b - 191⟩, 1) := by simp [cmd1, h, h2]
theorem cmd1_end {b : Nat} (h : ¬ b < 224) : cmd1 [b] = (⟨2, 256 * (b - 224)⟩, 1) := by simp [cmd1, h, show ¬ b < 192 by omega]
theorem cmd1_draw {b : Nat} (m : Nat) (r : List Nat) (h : ¬ b < 224) : cmd1 (b :: m :: r) = (⟨2, 256 * (b - 224) + m⟩, 2) := by simp [cmd1, h, show ¬ b < 192 by omega]
/-- 'b[1:n:m]'. -/
theorem cut1 (g off n c m : Nat) (hn : 1 ≤ n) (hm : n ≤ m) (hc : m ≤ c) (w : World) :
    (Instr.slice 25 (.slice (some ⟨g, off, none⟩) n c) (some (.int .i64 1)) (some (.int .i64 (n : Int))) (some (.int .i64 (m : Int)))).run Try.prog w = .ok (.slice (if m = 1 then some ⟨g, off, none⟩ else some ⟨g, off + 1, none⟩) (n - 1) (m - 1)) w := by
  rw [run_slice_lhm w 25 (some ⟨g, off, none⟩) n c (by kernel_rfl) .i64 .i64 .i64 1 (n : Int) (m : Int) (by omega) (by omega) (by omega) (by omega)]
  have hs : (sizeOf (Try.prog.elem 25)).run Try.prog w = .ok 1 w := by kernel_rfl
  rw [hs]
  simp [Result.andThen, sliced, Addr.add_lit]
theorem cut1e (g off n c : Nat) (hn : 1 ≤ n) (w : World) :
    (Instr.slice 25 (.slice (some ⟨g, off, none⟩) n c) (some (.int .i64 1)) none none).run Try.prog w = .ok (.slice (if c = 1 then some ⟨g, off, none⟩ else some ⟨g, off + 1, none⟩) (n - 1) (c - 1)) w := by
  rw [run_slice_l w 25 (some ⟨g, off, none⟩) n c (by kernel_rfl) .i64 1 (by omega) (by omega)]
  have hs : (sizeOf (Try.prog.elem 25)).run Try.prog w = .ok 1 w := by kernel_rfl
  rw [hs]
  simp [Result.andThen, sliced, Addr.add_lit]
theorem rd_cut1 {w : World} {B g off n c : Nat} {b : Nat} {r : List Nat} (h : Rd w B 1 (some ⟨g, off, none⟩) n (by_ (b :: r))) (hc : n ≤ c) : Rd w B 1 (if c = 1 then some ⟨g, off, none⟩ else some ⟨g, off + 1, none⟩) (n - 1) (by_ r) := by
  have hl := h.1
  rw [by_len, List.length_cons, Nat.mul_one] at hl
  refine ⟨by rw [by_len]; omega, fun hp => ?_⟩
  rw [by_len] at hp
  obtain ⟨g', off', e, hb, hcell⟩ := h.2 (by rw [by_len]; simp)
  injection e with e
  injection e with e1 e2
  subst e1 e2
  rw [if_neg (by omega)]
  refine ⟨g, off + 1, rfl, hb, fun j u hu => ?_⟩
  rw [Nat.add_assoc, Nat.add_comm 1 j]
  exact hcell (j + 1) u hu
theorem blk_cut1 {g off c j : Nat} (h : blk (if c = 1 then some ⟨g, off, none⟩ else some ⟨g, off + 1, none⟩) j) : j = g := by
  split at h
  · exact (blk_some _ _ _).1 h
  · exact (blk_some _ _ _).1 h
theorem res_cells {w : World} {B : Nat} {u v : Value} (c0 : w.cell? ⟨B, 0, none⟩ = some u) (c1 : w.cell? ⟨B, 1, none⟩ = some v) (hlt : B < w.heap.size) (a b : Value) (o : Obj) :
    (((w.setCell ⟨B, 0, none⟩ a).setCell ⟨B, 1, none⟩ b).alloc o).cell? ⟨B, 0, none⟩ = some a ∧ (((w.setCell ⟨B, 0, none⟩ a).setCell ⟨B, 1, none⟩ b).alloc o).cell? ⟨B, 1, none⟩ = some b := by
  have h1 : (w.setCell ⟨B, 0, none⟩ a).cell? ⟨B, 1, none⟩ = some v := by rw [World.cell?_setCell_other _ _ _ _ (by intro e; injection e with _ e; cases e)]; exact c1
  constructor
  · rw [World.cell?_alloc_lt _ _ _ (by simpa using hlt), World.cell?_setCell_other _ _ _ _ (by intro e; injection e with _ e; cases e)]
    exact World.cell?_setCell_same _ _ _ c0
  · rw [World.cell?_alloc_lt _ _ _ (by simpa using hlt)]
    exact World.cell?_setCell_same _ _ _ h1
/-- What 'first' leaves: the command, and the bytes behind it. -/
def FirstPost (g n : Nat) (x : Cm) (d : Nat) (rest : List Nat) (w : World) (e : Ending) (w' : World) : Prop :=
  ∃ A' c', e = .returned (.tuple #[.agg #[.int .u8 (x.k : Nat), .int .u64 (x.n : Nat)], .slice A' (n - d) c']) ∧ n - d ≤ c' ∧ (∀ j, blk A' j → j = g) ∧ Rd w' w'.heap.size 1 A' (n - d) (by_ rest) ∧ Frm w w' fun _ => False
set_option maxRecDepth 100000 in
set_option maxHeartbeats 1000000 in
theorem first_any (g off n c : Nat) (b : Nat) (r : List Nat) (w : World) (hr : Rd w w.heap.size 1 (some ⟨g, off, none⟩) n (by_ (b :: r))) (hn : n ≤ c) (hn63 : (n : Int) ≤ 100000) (hb : b ≤ 255) (hu : ∀ m ∈ r, m ≤ 255) :
    Calls Try.prog 83 #[.slice (some ⟨g, off, none⟩) n c] w (FirstPost g n (cmd1 (b :: r)).1 (cmd1 (b :: r)).2 ((b :: r).drop (cmd1 (b :: r)).2) w) := by
  obtain ⟨hlen, hcells⟩ := Rd.by_ hr
  obtain ⟨g', off', e, hgB, hcell⟩ := hcells (by rw [hlen]; simp)
  injection e with e
  injection e with e1 e2
  subst e1 e2
  have q0 := hcell 0 (by simp)
  simp only [List.getElem_cons_zero, Nat.add_zero] at q0
  have n1 : 1 ≤ n := by rw [hlen]; simp
  have hcut := cut1 g off n c n n1 (Nat.le_refl _) hn
  have HR := Lib.hid hr
  have HL := Lib.hid hlen
  have i0 : (0 : Int) < (n : Int) := by omega
  have b0 : (0 : Int) ≤ (b : Int) := by omega
  have b1 : (b : Int) ≤ 255 := by omega
  obtain ⟨A1, hA1⟩ : ∃ A, (if n = 1 then some (⟨g, off, none⟩ : Addr) else some ⟨g, off + 1, none⟩) = A := ⟨_, rfl⟩
  rw [hA1] at hcut
  have HA1 := Lib.hid hA1
  have HU := Lib.hid hu
  have hmm : n - 1 + 1 = n := by omega
  obtain ⟨m, hm⟩ : ∃ m, n - 1 = m := ⟨_, rfl⟩
  rw [hm] at hcut
  have HM := Lib.hid hm
  clear hlen hcells hcell hr hA1 hu hmm hm hgB
  go_enter Try.func83, Try.ntmps83
  go_wp2_with fail
  refine at_world ?_
  intro W hW
  have hF : Frm w W fun _ => False := by rw [hW]; exact (Frm.refl _ _).alloc _
  have q1 := Grown.cell (hF.cell q0 id)
  have HF := Lib.hid hF
  refine wp_region_grown W (Frm.refl _ _) (by kernel_rfl) (by kernel_rfl) ?_
  repeat (go_big_quiet_step (fail))
  refine wpQuiet_nil ?_
  intro wq hq
  have F := Lib.hid (HF.out.then_ hq)
  have c0 := hq.cell (show W.cell? ⟨w.heap.size, 0, none⟩ = some (.int .u8 0) by rw [hW, World.cell?_alloc_new]; rfl) id
  have c1 := hq.cell (show W.cell? ⟨w.heap.size, 1, none⟩ = some (.int .u64 0) by rw [hW, World.cell?_alloc_new]; rfl) id
  have hlt : w.heap.size < W.heap.size := by rw [hW]; simp
  have f0 := (hq.frozen (p := ⟨w.heap.size, 0, none⟩) hlt id).trans (show W.frozen? ⟨w.heap.size, 0, none⟩ = false by rw [hW]; exact World.frozen?_alloc_new _ _ _ _)
  have f1 := (hq.frozen (p := ⟨w.heap.size, 1, none⟩) hlt id).trans (show W.frozen? ⟨w.heap.size, 1, none⟩ = false by rw [hW]; exact World.frozen?_alloc_new _ _ _ _)
  have hlt2 := Nat.lt_of_lt_of_le hlt hq.size
  clear hq hF hW q1 q0 hlt
  by_cases h1 : (b : Int) < 192
  · have HC := Lib.hid (cmd1_pick r (show b < 192 by omega))
    go_wp2_with fail
    refine bodyPost_ret (v := .tuple #[.agg #[.int .u8 0, .int .u64 (b : Int)], .slice A1 m m]) (by simp [results, Try.results83, go_sem, c0, c1]) rfl ?_
    have FF : Frm w ((wq.setCell ⟨w.heap.size, 0, none⟩ (.int .u8 0)).setCell ⟨w.heap.size, 1, none⟩ (.int .u64 b)) fun _ => False := (F.out.setCell (p := ⟨w.heap.size, 0, none⟩) (fun h => by simp at h) _).setCell (p := ⟨w.heap.size, 1, none⟩) (fun h => by simp at h) _
    rw [HC.out]
    refine ⟨A1, m, by rw [HM.out]; rfl, by rw [HM.out]; exact Nat.le_refl _, fun j hj => by rw [← HA1.out] at hj; exact blk_cut1 hj, ?_, FF⟩
    have := rd_cut1 (HR.out.new_ FF) (Nat.le_refl n)
    rw [HA1.out] at this
    exact this
  by_cases h2 : (b : Int) < 224
  · have HC := Lib.hid (cmd1_tick r (show ¬ b < 192 by omega) (show b < 224 by omega))
    have hb2 : (b : Int) - 192 + 1 = ((b - 191 : Nat) : Int) := by omega
    have hb3 : (192 : Int) ≤ (b : Int) := by omega
    obtain ⟨x, hx⟩ : ∃ x, b - 191 = x := ⟨_, rfl⟩
    rw [hx] at hb2
    have HX := Lib.hid hx
    clear hx
    go_wp2_with fail
    refine bodyPost_ret (v := .tuple #[.agg #[.int .u8 1, .int .u64 (x : Int)], .slice A1 m m]) (by simp [results, Try.results83, go_sem, c0, c1]) rfl ?_
    have FF : Frm w ((wq.setCell ⟨w.heap.size, 0, none⟩ (.int .u8 1)).setCell ⟨w.heap.size, 1, none⟩ (.int .u64 x)) fun _ => False := (F.out.setCell (p := ⟨w.heap.size, 0, none⟩) (fun h => by simp at h) _).setCell (p := ⟨w.heap.size, 1, none⟩) (fun h => by simp at h) _
    rw [HC.out]
    refine ⟨A1, m, by rw [HM.out, HX.out]; rfl, by rw [HM.out]; exact Nat.le_refl _, fun j hj => by rw [← HA1.out] at hj; exact blk_cut1 hj, ?_, FF⟩
    have := rd_cut1 (HR.out.new_ FF) (Nat.le_refl n)
    rw [HA1.out] at this
    exact this
  have hb3 : (224 : Int) ≤ (b : Int) := by omega
  have hb4 : ((b : Int) - 224) * 256 = ((256 * (b - 224) : Nat) : Int) := by omega
  obtain ⟨x, hx⟩ : ∃ x, 256 * (b - 224) = x := ⟨_, rfl⟩
  rw [hx] at hb4
  have hxb : x ≤ 8000 := by omega
  have x0 : (0 : Int) ≤ (x : Int) := by omega
  have x1 : (x : Int) ≤ 8000 := by omega
  have HX := Lib.hid hx
  clear hx hxb
  cases r with
  | nil =>
    have hm0 : m = 0 := by have := HL.out; have := HM.out; simp at *; omega
    subst hm0
    have HC := Lib.hid (cmd1_end (show ¬ b < 224 by omega))
    go_wp2_with fail
    obtain ⟨r0, r1⟩ := res_cells c0 c1 hlt2 (.int .u8 2) (.int .u64 (x : Int)) (.cells #[.int .u8 2, .int .u64 (x : Int)] 124)
    refine bodyPost_ret (v := .tuple #[.agg #[.int .u8 2, .int .u64 (x : Int)], .slice A1 0 0]) (by simp [results, Try.results83, go_sem, r0, r1]) rfl ?_
    rw [HC.out]
    refine ⟨A1, 0, by rw [HM.out, HX.out]; rfl, by rw [HM.out]; exact Nat.le_refl _, fun j hj => by rw [← HA1.out] at hj; exact blk_cut1 hj, ?_, ?_⟩
    · rw [HM.out]; exact Rd.nil _ _ _ _
    · exact (((F.out.setCell (p := ⟨w.heap.size, 0, none⟩) (fun h => by simp at h) _).setCell (p := ⟨w.heap.size, 1, none⟩) (fun h => by simp at h) _).alloc _)
  | cons y r =>
    have hy : y ≤ 255 := HU.out y List.mem_cons_self
    have hm1 : 1 ≤ m := by have := HL.out; have := HM.out; simp at *; omega
    have m1 : (0 : Int) < (m : Int) := by omega
    have y0 : (0 : Int) ≤ (y : Int) := by omega
    have y1 : (y : Int) ≤ 255 := by omega
    have HC := Lib.hid (cmd1_draw y r (show ¬ b < 224 by omega))
    have hR1 := rd_cut1 (HR.out.new_ F.out) (Nat.le_refl n)
    rw [HA1.out, HM.out] at hR1
    have HA1' := HA1.out
    rw [if_neg (by have := HM.out; omega)] at HA1'
    subst HA1'
    have q2 := (Rd.by_ hR1).2 (by omega)
    obtain ⟨g', off', e, _, hcell⟩ := q2
    injection e with e
    injection e with e1 e2
    subst e1 e2
    have q3 := hcell 0 (by simp)
    simp only [List.getElem_cons_zero, Nat.add_zero] at q3
    have hcut2 := cut1e g (off + 1) m m hm1
    clear hcell
    obtain ⟨A2, hA2⟩ : ∃ A, (if m = 1 then some (⟨g, off + 1, none⟩ : Addr) else some ⟨g, off + 1 + 1, none⟩) = A := ⟨_, rfl⟩
    obtain ⟨m2, hm2⟩ : ∃ k, m - 1 = k := ⟨_, rfl⟩
    rw [hA2, hm2] at hcut2
    have HA2 := Lib.hid hA2
    have HM2 := Lib.hid hm2
    have HR1 := Lib.hid hR1
    obtain ⟨r0, r1⟩ := res_cells c0 c1 hlt2 (.int .u8 2) (.int .u64 ((x : Int) + (y : Int))) (.cells #[.int .u8 2, .int .u64 ((x : Int) + (y : Int))] 124)
    have R0 := Lib.hid r0
    have R1 := Lib.hid r1
    clear hA2 hm2 hR1 r0 r1
    go_wp2_with fail
    go_region
    all_goals
      go_wp2_with fail
      refine bodyPost_ret (v := .tuple #[.agg #[.int .u8 2, .int .u64 ((x : Int) + (y : Int))], .slice A2 m2 m2]) (by simp [results, Try.results83, go_sem, R0.out, R1.out]) rfl ?_
      have FF : Frm w ((((wq.setCell ⟨w.heap.size, 0, none⟩ (.int .u8 2)).setCell ⟨w.heap.size, 1, none⟩ (.int .u64 ((x : Int) + (y : Int)))).alloc (.cells #[.int .u8 2, .int .u64 ((x : Int) + (y : Int))] 124)).drew) fun _ => False := (((F.out.setCell (p := ⟨w.heap.size, 0, none⟩) (fun h => by simp at h) _).setCell (p := ⟨w.heap.size, 1, none⟩) (fun h => by simp at h) _).alloc _).drew
      rw [HC.out]
      have hn2 : n - 2 = m2 := by have := HM.out; have := HM2.out; omega
      refine ⟨A2, m2, by rw [hn2, HX.out]; rfl, by rw [hn2]; exact Nat.le_refl _, fun j hj => by rw [← HA2.out] at hj; exact blk_cut1 hj, ?_, FF⟩
      have hR2 := rd_cut1 (HR.out.new_ FF) (Nat.le_refl n)
      rw [if_neg (by have := HM.out; omega), HM.out] at hR2
      have hR3 := rd_cut1 hR2 (Nat.le_refl m)
      rw [HA2.out, HM2.out] at hR3
      rw [hn2]
      exact hR3
end Go.Proofs.Ytaenclbbiodhfaa
