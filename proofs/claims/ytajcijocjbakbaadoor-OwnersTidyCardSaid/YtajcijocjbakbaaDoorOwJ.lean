import Derived.Test.YtajcijocjbakbaaDoorOwI
import Derived.WalkKit
namespace Go.Proofs.YtajcijocjbakbaaDoor
open Go.RowKit

/-! ### all that a book tells of four threads -/
def modeN (l : List (Th × Value)) (t i : Nat) : Int := md l ((t : Int), 1056 + 4 * (i : Int)) + if md l ((t : Int), 1024 + 4 * (i : Int)) != 0 then 4 else 0
def accN (l : List (Th × Value)) (t : Nat) : Nat → Int
  | 0 => 0
  | i + 1 => accN l t i * 8 + modeN l t i
def tf (l : List (Th × Value)) (k i j : Nat) : Value := .int .u64 (if j < k then accN l j 8 else if j = k then accN l k i else 0)
def toldV (l : List (Th × Value)) : Value := .agg #[.int .u64 (accN l 0 8), .int .u64 (accN l 1 8), .int .u64 (accN l 2 8), .int .u64 (accN l 3 8)]
theorem Bk.modeN_le {w : World} {s : Nat} {g : Option Nat} {l : List (Th × Value)} (h : Bk w s g l) (t i : Nat) : 0 ≤ modeN l t i ∧ modeN l t i ≤ 7 := by
  unfold modeN
  have := h.md_le ((t : Int), 1056 + 4 * (i : Int))
  split <;> omega
theorem Bk.accN_le {w : World} {s : Nat} {g : Option Nat} {l : List (Th × Value)} (h : Bk w s g l) (t i : Nat) (hi : i ≤ 7) : 0 ≤ accN l t i ∧ accN l t i ≤ 2097151 := by
  have : ∀ i : Nat, 0 ≤ accN l t i ∧ accN l t i + 1 ≤ (8 : Int) ^ i := by
    intro i
    induction i with
    | zero => exact ⟨Int.le_refl _, by simp [accN]⟩
    | succ i ih =>
      have hm := h.modeN_le t i
      have e : accN l t (i + 1) = accN l t i * 8 + modeN l t i := rfl
      have e2 : (8 : Int) ^ (i + 1) = 8 ^ i * 8 := Int.pow_succ 8 i
      rw [e, e2]
      omega
  have h1 := this i
  have h2 : (8 : Int) ^ i ≤ 8 ^ 7 := by
    match i, hi with
    | 0, _ => decide
    | 1, _ => decide
    | 2, _ => decide
    | 3, _ => decide
    | 4, _ => decide
    | 5, _ => decide
    | 6, _ => decide
    | 7, _ => decide
  have h3 : (8 : Int) ^ 7 = 2097152 := by decide
  omega
theorem Var.congr {w : World} {b n : Nat} {f f' : Nat → Value} (h : Var w b n f) (e : ∀ i, i < n → f i = f' i) : Var w b n f' := ⟨fun i hi => by rw [h.cell i hi, e i hi], h.free, h.lt⟩
set_option maxRecDepth 100000 in
set_option maxHeartbeats 4000000 in
theorem told_any (s : Nat) (g : Option Nat) (l : List (Th × Value)) (w : World) (h : Bk w s g l) :
    Calls Tryd.prog 7 #[.pointer (some ⟨s, 0, none⟩)] w fun e w' => e = .returned (toldV l) ∧ Frm w w' fun _ => False := by
  have HB := Lib.hid h
  clear h
  unfold toldV
  obtain ⟨x0, h0⟩ : ∃ x, accN l 0 8 = x := ⟨_, rfl⟩
  obtain ⟨x1, h1⟩ : ∃ x, accN l 1 8 = x := ⟨_, rfl⟩
  obtain ⟨x2, h2⟩ : ∃ x, accN l 2 8 = x := ⟨_, rfl⟩
  obtain ⟨x3, h3⟩ : ∃ x, accN l 3 8 = x := ⟨_, rfl⟩
  rw [h0, h1, h2, h3]
  have HX := Lib.hid (And.intro h0 (And.intro h1 (And.intro h2 h3)))
  clear h0 h1 h2 h3
  go_enter Tryd.func7, Tryd.ntmps7
  go_upto_region 2 with fail
  refine at_world' ?_
  intro W hW
  have hF : Frm w W fun _ => False := by rw [hW]; exact ((Frm.refl _ _).alloc _).alloc _
  have hV0 : Var W w.heap.size 4 (fun _ => .int .u64 0) := by
    rw [hW]
    refine (Var.new w 29 _ fun i hi => ?_).alloc _
    match i, hi with
    | 0, _ => rfl
    | 1, _ => rfl
    | 2, _ => rfl
    | 3, _ => rfl
  have hV1 : Var W (w.heap.size + 1) 4 (tf l 0 0) := by
    rw [hW]
    have e : w.heap.size + 1 = (w.alloc (.cells #[.int .u64 0, .int .u64 0, .int .u64 0, .int .u64 0] 29)).heap.size := by simp
    rw [e]
    refine Var.new _ 29 _ fun i hi => ?_
    match i, hi with
    | 0, _ => rfl
    | 1, _ => rfl
    | 2, _ => rfl
    | 3, _ => rfl
  have HN := Lib.hid (show ¬ w.heap.size < w.heap.size ∧ ¬ w.heap.size + 1 < w.heap.size by omega)
  have HNE := Lib.hid (show w.heap.size + 1 ≠ w.heap.size by omega)
  obtain ⟨b0, hb0⟩ : ∃ b, w.heap.size = b := ⟨_, rfl⟩
  rw [hb0] at hV0 hV1 HNE ⊢
  rw [show ¬ w.heap.size + 1 < w.heap.size ↔ ¬ b0 + 1 < w.heap.size by rw [hb0], show ¬ w.heap.size < w.heap.size ↔ ¬ b0 < w.heap.size by rw [hb0]] at HN
  obtain ⟨b1, hb1⟩ : ∃ b, b0 + 1 = b := ⟨_, rfl⟩
  rw [hb1] at hV1 HN HNE ⊢
  clear hb0 hb1 hW
  go_wp2_with fail
  go_loopw [4] (fun ti wr => ∃ k : Nat, ti = .int .i64 k ∧ k ≤ 4 ∧ Var wr b1 4 (tf l k 0) ∧ Var wr b0 4 (fun _ => .int .u64 0) ∧ Frm w wr fun _ => False) (fun ti _ => 4 - (intOf ti).toNat)
  case atStart => exact ⟨0, rfl, Nat.zero_le _, hV1, hV0, hF⟩
  case round =>
    clear hV0 hV1 hF
    obtain ⟨k, rfl, hk4, hV1, hV0, hF⟩ := hrel
    by_cases hk : k < 4
    · have k0 : (0 : Int) ≤ (k : Int) := by omega
      have k1 : (k : Int) < 4 := by omega
      have U0 := Lib.hid hV0
      have U1 := Lib.hid hV1
      have G := Lib.hid hF
      clear hV0 hV1 hF
      go_wp2_with fail
      go_loopw [5] (fun ii wr => ∃ i : Nat, ii = .int .i64 i ∧ i ≤ 8 ∧ Var wr b1 4 (tf l k i) ∧ Var wr b0 4 (fun _ => .int .u64 0) ∧ Frm w wr fun _ => False) (fun ii _ => 8 - (intOf ii).toNat)
      case atStart => exact ⟨0, rfl, Nat.zero_le _, U1.out, U0.out, G.out⟩
      case round =>
        clear U0 U1 G
        obtain ⟨i, rfl, hi8, hV1, hV0, hF⟩ := hrel
        by_cases hi : i < 8
        · have i0 : (0 : Int) ≤ (i : Int) := by omega
          have i1 : (i : Int) < 8 := by omega
          have HBr := Lib.hid (HB.out.new_ hF)
          have hc := hV1.cell k hk
          have hfr := hV1.free k
          obtain ⟨a0, a1⟩ := HB.out.accN_le k i (by omega)
          obtain ⟨m0, m1⟩ := HB.out.md_le ((k : Int), 1056 + 4 * (i : Int))
          have hac : accN l k (i + 1) = accN l k i * 8 + modeN l k i := rfl
          unfold modeN at hac
          have hcv : tf l k i k = .int .u64 (accN l k i) := by unfold tf; rw [if_neg (Nat.lt_irrefl _), if_pos rfl]
          rw [hcv] at hc
          have hR := rw_any s g l k i i0 i1 wr HBr.out
          have hM := mutex_any s g l k i i0 i1 wr HBr.out
          obtain ⟨ac, hac0⟩ : ∃ a, accN l k i = a := ⟨_, rfl⟩
          obtain ⟨m, hm⟩ : ∃ a, md l ((k : Int), 1056 + 4 * (i : Int)) = a := ⟨_, rfl⟩
          obtain ⟨x, hx⟩ : ∃ a, (md l ((k : Int), 1024 + 4 * (i : Int)) != 0) = a := ⟨_, rfl⟩
          rw [hac0] at hc a0 a1 hac
          rw [hm] at m0 m1 hR hac
          rw [hx] at hM hac
          have HAC := Lib.hid hac
          have U0 := Lib.hid hV0
          have U1 := Lib.hid hV1
          have G := Lib.hid hF
          clear hV0 hV1 hF hac hcv hac0 hm hx
          have hrel' : ∀ v : Int, v = accN l k (i + 1) → Var (wr.setCell ⟨b1, k, none⟩ (.int .u64 v)) b1 4 (tf l k (i + 1)) ∧ Var (wr.setCell ⟨b1, k, none⟩ (.int .u64 v)) b0 4 (fun _ => .int .u64 0) ∧ Frm w (wr.setCell ⟨b1, k, none⟩ (.int .u64 v)) fun _ => False := by
            intro v hv
            refine ⟨(U1.out.set hk (.int .u64 v)).congr fun j hj => ?_, U0.out.far (p := ⟨b1, k, none⟩) HNE.out _, G.out.setCell (p := ⟨b1, k, none⟩) (fun h => absurd h HN.out.2) _⟩
            split
            · rename_i e
              subst e
              unfold tf
              rw [if_neg (Nat.lt_irrefl _), if_pos rfl, hv]
            · rename_i e
              unfold tf
              rw [if_neg e, if_neg e]
          have HREL := Lib.hid hrel'
          clear hrel'
          cases x with
          | false =>
            go_wp2_with (first
              | (go_at_call 13; refine hR.mono ?_; rintro e w' ⟨rfl, rfl⟩)
              | (go_at_call 12; refine hM.mono ?_; rintro e w' ⟨rfl, rfl⟩))
            go_roundw
            case rel => exact ⟨i + 1, by go_num, by omega, HREL.out _ (by rw [HAC.out]; simp)⟩
            case measure => simp [intOf]; omega
          | true =>
            go_wp2_with (first
              | (go_at_call 13; refine hR.mono ?_; rintro e w' ⟨rfl, rfl⟩)
              | (go_at_call 12; refine hM.mono ?_; rintro e w' ⟨rfl, rfl⟩))
            go_roundw
            case rel => exact ⟨i + 1, by go_num, by omega, HREL.out _ (by rw [HAC.out]; simp)⟩
            case measure => simp [intOf]; omega
        · obtain rfl : i = 8 := by omega
          go_wp2_with fail
          go_roundw
          case rel =>
            refine ⟨k + 1, by go_num, by omega, hV1.congr fun j hj => ?_, hV0, hF⟩
            unfold tf
            by_cases e1 : j < k
            · rw [if_pos e1, if_pos (by omega)]
            · by_cases e2 : j = k
              · subst e2
                rw [if_neg e1, if_pos rfl, if_pos (by omega)]
              · rw [if_neg e1, if_neg e2, if_neg (by omega)]
                split <;> rfl
          case measure => simp [intOf]; omega
    · obtain rfl : k = 4 := by omega
      have c0 : wr.cell? ⟨b1, 0, none⟩ = some (.int .u64 (accN l 0 8)) := hV1.cell 0 (by omega)
      have c1 : wr.cell? ⟨b1, 1, none⟩ = some (.int .u64 (accN l 1 8)) := hV1.cell 1 (by omega)
      have c2 : wr.cell? ⟨b1, 2, none⟩ = some (.int .u64 (accN l 2 8)) := hV1.cell 2 (by omega)
      have c3 : wr.cell? ⟨b1, 3, none⟩ = some (.int .u64 (accN l 3 8)) := hV1.cell 3 (by omega)
      have d0 : wr.cell? ⟨b0, 0, none⟩ = some (.int .u64 0) := hV0.cell 0 (by omega)
      have d1 : wr.cell? ⟨b0, 1, none⟩ = some (.int .u64 0) := hV0.cell 1 (by omega)
      have d2 : wr.cell? ⟨b0, 2, none⟩ = some (.int .u64 0) := hV0.cell 2 (by omega)
      have d3 : wr.cell? ⟨b0, 3, none⟩ = some (.int .u64 0) := hV0.cell 3 (by omega)
      have f0 := hV0.free 0
      have f1 := hV0.free 1
      have f2 := hV0.free 2
      have f3 := hV0.free 3
      have G := Lib.hid hF
      clear hV0 hV1 hF
      rw [HX.out.1] at c0
      rw [HX.out.2.1] at c1
      rw [HX.out.2.2.1] at c2
      rw [HX.out.2.2.2] at c3
      go_wp2_with fail
      refine at_body ?_
      intro W' hW'
      have y0 : W'.cell? ⟨b0, 0, none⟩ = some (.int .u64 x0) := by subst hW'; go_simp
      have y1 : W'.cell? ⟨b0, 1, none⟩ = some (.int .u64 x1) := by subst hW'; go_simp
      have y2 : W'.cell? ⟨b0, 2, none⟩ = some (.int .u64 x2) := by subst hW'; go_simp
      have y3 : W'.cell? ⟨b0, 3, none⟩ = some (.int .u64 x3) := by subst hW'; go_simp
      refine bodyPost_ret (v := .agg #[.int .u64 x0, .int .u64 x1, .int .u64 x2, .int .u64 x3]) (by simp [results, Tryd.results7, go_sem, y0, y1, y2, y3]) rfl ⟨rfl, ?_⟩
      rw [hW']
      repeat (first | with_reducible refine Frm.drew ?_ | with_reducible refine Frm.alloc ?_ _ | with_reducible refine Frm.setCell ?_ (fun h => absurd h HN.out.1) _)
      exact G.out
end Go.Proofs.YtajcijocjbakbaaDoor
