import Derived.Test.YtmjpaaippilioaaDoorPgQ
import Derived.Test.YtmjpaaippilioaaDoorRgr
import Derived.Deep.RegionLaw
namespace Go.Proofs.YtmjpaaippilioaaDoor
open Go.RowKit
attribute [local go_sem] Oper.semAt_some

/-- A call of a function, as one step of a region that draws. -/
theorem step_call {P : Program} {ops : Array Oper} {o : Oper} {a : Act} {w : World} {K : Act → World → Prop} {Q : Exit → Act → World → Prop} {E : Prop} {R : Ending → World → Prop}
    (hg : o.guard = none) (f : FuncId) {fn : Func} (hf : P.funcs[f]? = some fn) (hn : fn.name ≠ "runtime.NumGoroutine") (hb : fn.body ≠ none)
    (os : Array Operand) (ts : Array TypeId) (hop : o.op = Op.call { callee := Callee.value (Operand.func f), args := os, argTypes := ts }) (args : Array Value) (ha : os.map a.eval = args)
    (h : Calls P f args w R) (hR : ∀ e w', R e w' → ∃ v, e = .returned v ∧ K (a.put o.dst v) w') :
    if Region.wanted o (yielded ops a.tmps) = true then Oper.wp P o a w K Q else E := by
  have hw : Region.wanted o (yielded ops a.tmps) = true := by simp [Region.wanted, hg]
  rw [if_pos hw]
  have hrun : (execOp a.eval o).run P w = .ok (.enter f args) w := by
    subst ha
    simp [execOp, hop, resolve, callFunc, hf, hn, hb, go_sem]
  unfold Oper.wp
  rw [hrun]
  refine h.mono ?_
  intro e w' hr
  obtain ⟨v, rfl, hk⟩ := hR e w' hr
  exact hk
theorem step_call1 {P : Program} {ops : Array Oper} {o : Oper} {a : Act} {w : World} {K : Act → World → Prop} {Q : Exit → Act → World → Prop} {E : Prop} {R : Ending → World → Prop}
    (hg : o.guard = none) (f : FuncId) {fn : Func} (hf : P.funcs[f]? = some fn) (hn : fn.name ≠ "runtime.NumGoroutine") (hb : fn.body ≠ none)
    (x : Operand) (ts : Array TypeId) (hop : o.op = Op.call { callee := Callee.value (Operand.func f), args := #[x], argTypes := ts }) (u : Value) (hx : a.eval x = u)
    (h : Calls P f #[u] w R) (hR : ∀ e w', R e w' → ∃ v, e = .returned v ∧ K (a.put o.dst v) w') :
    if Region.wanted o (yielded ops a.tmps) = true then Oper.wp P o a w K Q else E :=
  step_call hg f hf hn hb #[x] ts hop #[u] (by simp [hx]) h hR
theorem f69n : Tryd.f69.name ≠ "runtime.NumGoroutine" := by decide
theorem f69b : Tryd.f69.body ≠ none := by intro h; cases h
theorem info50 : (Tryd.prog.info? 50).map (fun i => (i.zero, i.size, i.bytes)) = some (some (.agg #[.int .u8 0, .int .i64 0, .int .i64 0, .int .i64 0, .bool false, .bool false, .int .i64 0]), 7, 48) := by kernel_rfl
theorem info_parts {o : Option TypeInfo} {z : Option Value} {s b : Nat} (h : o.map (fun i => (i.zero, i.size, i.bytes)) = some (z, s, b)) : ∃ i, o = some i ∧ i.zero = z ∧ i.size = s ∧ i.bytes = b := by
  cases o with
  | none => cases h
  | some i =>
    injection h with h
    injection h with h1 h2
    injection h2 with h2 h3
    exact ⟨i, rfl, h1, h2, h3⟩
theorem OpR.cs_one (x : OpR) : ∀ u ∈ x.cs, u.oneCell' = true := by
  intro u hu
  simp [OpR.cs] at hu
  rcases hu with rfl | rfl | rfl | rfl | rfl | rfl | rfl <;> rfl
/-! ### Parse -/
def bz (l : List Nat) : List Value := l.map fun (c : Nat) => .int .u8 (c : Int)
def parseL (zs : List Nat) : List OpR := (List.range (zs.length / 4)).map fun k => parsedO (zs.getD (k * 4) 0) (zs.getD (k * 4 + 1) 0) (zs.getD (k * 4 + 2) 0) (zs.getD (k * 4 + 3) 0)
abbrev opsV (l : List OpR) : List Value := l.flatMap OpR.cs
theorem opsV_len (l : List OpR) : (opsV l).length = l.length * 7 := flat_len OpR.cs 7 OpR.cs_len l
theorem parseL_len (zs : List Nat) : (parseL zs).length = zs.length / 4 := by simp [parseL]
/-- How far the list has come: box o holds it. -/
def RI (o B : Nat) (zs : List Nat) (w : World) (k : Nat) (V : World) : Prop :=
  ∃ A cap, V.cell? ⟨o, 0, none⟩ = some (.slice A (min k (zs.length / 4)) cap) ∧ V.frozen? ⟨o, 0, none⟩ = false ∧ Sl V B 7 A (min k (zs.length / 4)) cap (opsV ((parseL zs).take k)) ∧ Frm w V fun _ => False
theorem RI.frm {o B : Nat} {zs : List Nat} {w X Y : World} {k : Nat} {S : Nat → Prop} (h : RI o B zs w k X) (hf : Frm X Y S) (ho : ¬ S o) (hB : ∀ j, B ≤ j → ¬ S j) (hw : ∀ j, S j → w.heap.size ≤ j) : RI o B zs w k Y := by
  obtain ⟨A, cap, h1, h2, h3, h4⟩ := h
  have hlt := World.block_lt_of_cell? X _ h1
  exact ⟨A, cap, hf.cell h1 ho, (hf.frozen (p := ⟨o, 0, none⟩) hlt ho).trans h2, h3.frm hf (fun j hj => hB j (h3.ge hj).1), h4.trans hf fun j hj hs => by have := hw j hs; omega⟩
theorem clip70 (A : Option Addr) (n c : Nat) (h : n ≤ c) (w : World) : Calls Tryd.prog 70 #[.slice A n c] w fun e w' => e = .returned (.slice A n n) ∧ w = w' := by
  have i0 : (0 : Int) ≤ (n : Int) := by omega
  have i1 : (n : Int) ≤ (c : Int) := by omega
  go_enter Tryd.func70, Tryd.ntmps70
  go_wp2
  go_ret
  exact ⟨rfl, rfl⟩
set_option maxRecDepth 100000 in
set_option maxHeartbeats 4000000 in
theorem parse_any (g off n c : Nat) (zs : List Nat) (w : World) (h1 : T1 w) (hr : Rd w w.heap.size 1 (some ⟨g, off, none⟩) n (bz zs)) (hz : ∀ z ∈ zs, z ≤ 255) (hn : (n : Int) ≤ 3000) (hnc : n ≤ c) (hc : c ≤ maxLen) :
    Calls Tryd.prog 39 #[.slice (some ⟨g, off, none⟩) n c] w fun e w' => ∃ A, e = .returned (.slice A (zs.length / 4) (zs.length / 4)) ∧ Sl w' w.heap.size 7 A (zs.length / 4) (zs.length / 4) (opsV (parseL zs)) ∧ Frm w w' fun _ => False := by
  have hlen : n = zs.length := by have := hr.1; simp [bz] at this; omega
  have HR := Lib.hid hr
  have HZ := Lib.hid hz
  have H1 := Lib.hid h1
  have HLE := Lib.hid hlen
  clear hr hz h1 hlen
  refine (callsIn_wide (n := 0)).1 ?_
  refine callsIn_of_wp_marks Tryd.func39 rfl trivial ?_ rfl
  simp only [Tryd.ntmps39, List.size_toArray, List.length_cons, List.length_nil, Nat.reduceAdd, Nat.reduceSub, Array.replicate_succ, Array.replicate_zero, List.push_toArray, List.append_toArray, List.nil_append, List.cons_append]
  refine wpIn_wide.2 ?_
  go_wp2_with (go_at_call 68; refine (chunk_any _ _ _ _).mono ?_; rintro e w' ⟨rfl, rfl⟩)
  refine at_world' ?_
  intro W hW
  have hsW : W.heap.size = w.heap.size + 3 := by rw [hW]; simp
  have hFW : Frm w W fun _ => False := by rw [hW]; exact (((Frm.refl _ _).alloc _).alloc _).alloc _
  have o0 : W.cell? ⟨w.heap.size, 0, none⟩ = some (.slice none 0 0) := by rw [hW]; exact (((Frm.refl _ fun _ => False).alloc _).alloc _).cell (by rw [World.cell?_alloc_new]; rfl) id
  have of : W.frozen? ⟨w.heap.size, 0, none⟩ = false := by rw [hW, (((Frm.refl _ fun _ => False).alloc _).alloc _).frozen (by simp) id]; exact World.frozen?_alloc_new _ _ _ _
  have b1 : W.cell? ⟨w.heap.size + 1, 0, none⟩ = some (.slice (some ⟨g, off, none⟩) n c) := by
    rw [hW]
    refine ((Frm.refl _ fun _ => False).alloc _).cell ?_ id
    have e : w.heap.size + 1 = (w.alloc (.cells #[.slice none 0 0] 39)).heap.size := by simp
    rw [e, World.cell?_alloc_new]; rfl
  have b2 : W.cell? ⟨w.heap.size + 2, 0, none⟩ = some (.int .i64 4) := by
    rw [hW]
    have e : w.heap.size + 2 = ((w.alloc (.cells #[.slice none 0 0] 39)).alloc (.cells #[.slice (some ⟨g, off, none⟩) n c] 38)).heap.size := by simp
    rw [e, World.cell?_alloc_new]; rfl
  have hseq := chunk_seq (w.heap.size + 1) (w.heap.size + 2) g off n c (fun j => j = w.heap.size) W b1 b2 (by omega) (by omega) hnc (by omega) hc
  clear hW b1 b2
  refine wpIn_wide.1 (wpIn_range (gf := 85) (lb := #[.pointer (some ⟨w.heap.size + 1, 0, none⟩), .pointer (some ⟨w.heap.size + 2, 0, none⟩)]) rfl (enters_of Tryd.func85 (by kernel_rfl) rfl) hseq (fun j h => h.elim) (fun j h => by have h : j = w.heap.size := h; omega) (fun _ => rfl) (RI w.heap.size (W.heap.size + 2) zs w) (fun _ _ _ => False)
    (fun k X Y h hf => h.frm hf (by simp; omega) (fun j hj => by simp; omega) (fun j hj => by simp at hj; omega)) (fun _ _ _ _ h _ => h.elim) ⟨none, 0, by simpa using o0, of, by simpa [opsV] using Sl.nil W (W.heap.size + 2) 7, hFW⟩ ?round ?done ?stop)
  case round =>
    intro k hkl V hI hsV
    rw [List.getElem_range]
    unfold ckArgs
    simp only [List.zip_toArray, List.zip_cons_cons, List.zip_nil_left]
    have hm : ∀ p, k * 4 = p → True := fun _ _ => trivial
    gi_wp2
    refine ⟨Frm.refl _ _, ?_⟩
    intro W2 hf2
    have hI2 := hI.frm hf2 (by omega) (fun j hj h => by omega) (fun j h => by omega)
    rw [List.length_range] at hkl
    have HI := Lib.hid hI2
    have HF2 := Lib.hid hf2
    clear hI hI2 hf2 hseq o0 of hm
    by_cases hfull : k < zs.length / 4
    · have hm4 : min 4 (n - k * 4) = 4 := by have := HLE.out; omega
      rw [hm4]
      obtain ⟨A, cap, c0, c0f, hS, hFr⟩ := HI.out
      have hmk : min k (zs.length / 4) = k := by omega
      rw [hmk] at c0 hS
      have S := Lib.hid hS
      have F := Lib.hid hFr
      clear hS hFr hmk hm4
      have hz4 : k * 4 + 3 < zs.length := by omega
      obtain ⟨g', off', e1, -, hcell⟩ := HR.out.2 (by simp [bz]; omega)
      injection e1 with e1
      injection e1 with e1 e2
      subst e1 e2
      have hby : ∀ j, j < zs.length → w.cell? ⟨g, off + j, none⟩ = some (.int .u8 ((zs.getD j 0 : Nat) : Int)) := fun j hj => hcell j _ (by unfold bz; rw [List.getElem?_map, List.getElem?_eq_getElem hj, List.getD_eq_getElem?_getD, List.getElem?_eq_getElem hj]; rfl)
      have hle : ∀ j, j < zs.length → zs.getD j 0 ≤ 255 := fun j hj => by
        rw [List.getD_eq_getElem?_getD, List.getElem?_eq_getElem hj]
        exact HZ.out _ (List.getElem_mem hj)
      have hP : ∀ v : World, (Frm w v fun _ => False) → Calls Tryd.prog 69 #[.slice (some ⟨g, off + k * 4, none⟩) 4 4] v fun e w' => e = .returned (parsedO (zs.getD (k * 4) 0) (zs.getD (k * 4 + 1) 0) (zs.getD (k * 4 + 2) 0) (zs.getD (k * 4 + 3) 0)).V ∧ Frm v w' fun _ => False := fun v hv => by
        have h2 := H1.out.new_ hv
        exact parsed_any g (off + k * 4) 4 _ _ _ _ v h2.tabs h2.size (hle _ (by omega)) (hle _ (by omega)) (hle _ (by omega)) (hle _ (by omega)) (hv.cell (hby _ (by omega)) id) (hv.cell (by rw [Nat.add_assoc]; exact hby _ (by omega)) id) (hv.cell (by rw [Nat.add_assoc]; exact hby _ (by omega)) id) (hv.cell (by rw [Nat.add_assoc]; exact hby _ (by omega)) id)
      have hpk : (parseL zs).take (k + 1) = (parseL zs).take k ++ [parsedO (zs.getD (k * 4) 0) (zs.getD (k * 4 + 1) 0) (zs.getD (k * 4 + 2) 0) (zs.getD (k * 4 + 3) 0)] := by
        rw [List.take_succ_eq_append_getElem (by rw [parseL_len]; exact hfull)]
        congr 1
        unfold parseL
        rw [List.getElem_map, List.getElem_range]
      obtain ⟨X, hX⟩ : ∃ X, parsedO (zs.getD (k * 4) 0) (zs.getD (k * 4 + 1) 0) (zs.getD (k * 4 + 2) 0) (zs.getD (k * 4 + 3) 0) = X := ⟨_, rfl⟩
      rw [hX] at hP hpk
      have HP := Lib.hid hP
      have HPK := Lib.hid hpk
      have hkb : k + 1 ≤ maxLen ∧ (k + 1) * 48 ≤ 140737488355328 := by have := HLE.out; unfold maxLen; omega
      have HKB := Lib.hid hkb
      have hsV2 : W.heap.size + 2 ≤ W2.heap.size := Nat.le_trans hsV HF2.out.size
      have HSV := Lib.hid hsV2
      have HSW := Lib.hid hsW
      have hdr : W2.drew.cell? ⟨w.heap.size, 0, none⟩ = some (.slice A k cap) := c0
      obtain ⟨i50, hi, hz0, hz1, hz2⟩ := info_parts info50
      clear hcell hby hle hP hpk hX hkb hsV2
      gi_wp2_with fail
      refine wpIn_region_round (S := fun _ => True) (by kernel_rfl) (by intro a w h; exact h) (by kernel_rfl) trivial ?_
      intro hS
      obtain ⟨xk, xa, xo, xt, xfl, xfa, xg⟩ := X
      refine wpAnyH_take (i := 1) (v := .slice (some ⟨g, off + k * 4, none⟩) 4 4) rfl (by kernel_rfl) (by kernel_rfl) (by kernel_rfl) (fun _ _ _ h => h) (Or.inl ⟨by rfl, ?_⟩) hS ?_
      · intro U u0
        go_simp
      dsimp only [Act.put, Array.setIfInBounds]
      refine wpAnyH_ready (rs := [0, 2]) (by kernel_rfl) (by simp) ?_
      refine AllReadyH.cons rfl (fun K hK => ?_) (AllReadyH.cons rfl (fun K hK => ?_) AllReadyH.nil)
      · go_simp
        refine hK _ _ trivial ?_
        intro hS
        dsimp only [Act.put, Array.setIfInBounds]
        refine wpAnyH_ready (rs := [2]) (by kernel_rfl) (by simp) ?_
        refine AllReadyH.cons rfl (fun K hK => ?_) AllReadyH.nil
        refine step_call1 rfl 69 Tryd.func69 f69n f69b (.tmp 12) _ rfl (.slice (some ⟨g, off + k * 4, none⟩) 4 4) rfl (HP.out _ F.out.drew) ?_
        rintro e W3 ⟨rfl, hf3⟩
        refine ⟨_, rfl, ?_⟩
        have hdW : Frm W2 W3 fun _ => False := ((Frm.refl W2 (fun _ => False)).drew).then_ hf3
        have d0 := hdW.cell c0 id
        have HD := Lib.hid hdW
        clear hf3 hdW
        refine hK _ _ trivial ?_
        intro hS
        dsimp only [Act.put, Array.setIfInBounds]
        refine wpAnyH_ready (rs := [3]) (by kernel_rfl) (by simp) ?_
        refine AllReadyH.cons rfl (fun K hK => ?_) AllReadyH.nil
        go_simp
        have hdW := (HD.out.alloc (.cells #[.int .u8 xk, .int .i64 xa, .int .i64 xo, .int .i64 xt, .bool xfl, .bool xfa, .int .i64 xg] 50))
        have d1 := hdW.cell c0 id
        have d1f := (hdW.frozen (p := ⟨w.heap.size, 0, none⟩) (World.block_lt_of_cell? _ _ c0) id).trans c0f
        have S3 := Lib.hid (S.out.new_ hdW)
        have F3 := Lib.hid (F.out.then_ hdW)
        have HW3 := Lib.hid (Nat.le_trans HSV.out hdW.size)
        have HDA := Lib.hid hdW
        clear hdW
        refine hK _ _ trivial ?_
        intro hS
        dsimp only [Act.put, Array.setIfInBounds]
        refine wpAnyH_ready (rs := [4]) (by kernel_rfl) (by simp) ?_
        refine AllReadyH.cons rfl (fun K hK => ?_) AllReadyH.nil
        refine step_append_sl _ rfl (.tmp 11) (.tmp 14) 39 rfl (W.heap.size + 2) 50 i50 _ 7 48 Tryd.underlying39 hi hz0 hz1 hz2 rfl (by decide) _ _ _ _ rfl S3.out _ 1 1 (OpR.cs ⟨xk, xa, xo, xt, xfl, xfa, xg⟩) rfl (Rd.fresh W3 50 #[.int .u8 xk, .int .i64 xa, .int .i64 xo, .int .i64 xt, .bool xfl, .bool xfa, .int .i64 xg] rfl) (OpR.cs_one _) HKB.out.1 HKB.out.2 HW3.out ?_
        intro A' cap' w3 hap
        have nbo : ¬ blk A w.heap.size := fun h => by have := (S3.out.ge h).1; have := HSW.out; omega
        have e0 := hap.2.1.cell d1 nbo
        have e0f := (hap.2.1.frozen (p := ⟨w.heap.size, 0, none⟩) (World.block_lt_of_cell? _ _ d1) nbo).trans d1f
        have HAP := Lib.hid hap
        clear hap
        refine hK _ _ trivial ?_
        intro hS
        dsimp only [Act.put, Array.setIfInBounds]
        refine wpAnyH_ready (rs := [5]) (by kernel_rfl) (by simp) ?_
        refine AllReadyH.cons rfl (fun K hK => ?_) AllReadyH.nil
        go_simp
        refine hK _ _ trivial ?_
        intro _
        refine wpAnyH_done (by kernel_rfl) ?_ _
        have nbo' : ∀ j, blk A' j → j ≠ w.heap.size := fun j h e => by have := (HAP.out.1.ge h).1; have := HSW.out; omega
        have FA := HDA.out.none_ (blk A) |>.then_ HAP.out.2.1
        have FT := (FA.mono fun j _ hj => (show j = w.heap.size ∨ W.heap.size + 2 ≤ j from .inr (S.out.ge hj).1)).setCell (p := ⟨w.heap.size, 0, none⟩) (fun _ => .inl rfl) (.slice A' (k + 1) cap')
        have hfin := HAP.out.1.frm (S := fun j => j = w.heap.size) ((Frm.refl w3 (fun j => j = w.heap.size)).setCell (p := ⟨w.heap.size, 0, none⟩) (fun _ => rfl) (.slice A' (k + 1) cap')) nbo'
        refine ⟨FT, A', cap', ?_, ?_, ?_, F.out.fresh FT (fun j hj => hj.elim (fun h => by omega) (fun h => by have := HSW.out; omega))⟩
        · rw [World.cell?_setCell_same _ _ _ e0, show min (k + 1) (zs.length / 4) = k + 1 by omega]
        · rw [World.frozen?_setCell]; exact e0f
        · rw [show min (k + 1) (zs.length / 4) = k + 1 by omega, HPK.out]
          unfold opsV
          rw [List.flatMap_append, List.flatMap_cons, List.flatMap_nil, List.append_nil]
          exact hfin
      · refine step_call1 rfl 69 Tryd.func69 f69n f69b (.tmp 12) _ rfl (.slice (some ⟨g, off + k * 4, none⟩) 4 4) rfl (HP.out _ F.out.drew) ?_
        rintro e W3 ⟨rfl, hf3⟩
        refine ⟨_, rfl, ?_⟩
        have hdW : Frm W2 W3 fun _ => False := ((Frm.refl W2 (fun _ => False)).drew).then_ hf3
        have d0 := hdW.cell c0 id
        have HD := Lib.hid hdW
        clear hf3 hdW
        refine hK _ _ trivial ?_
        intro hS
        dsimp only [Act.put, Array.setIfInBounds]
        refine wpAnyH_ready (rs := [0, 3]) (by kernel_rfl) (by simp) ?_
        refine AllReadyH.cons rfl (fun K hK => ?_) (AllReadyH.cons rfl (fun K hK => ?_) AllReadyH.nil)
        · go_simp
          refine hK _ _ trivial ?_
          intro hS
          dsimp only [Act.put, Array.setIfInBounds]
          refine wpAnyH_ready (rs := [3]) (by kernel_rfl) (by simp) ?_
          refine AllReadyH.cons rfl (fun K hK => ?_) AllReadyH.nil
          go_simp
          have hdW := (HD.out.alloc (.cells #[.int .u8 xk, .int .i64 xa, .int .i64 xo, .int .i64 xt, .bool xfl, .bool xfa, .int .i64 xg] 50))
          have d1 := hdW.cell c0 id
          have d1f := (hdW.frozen (p := ⟨w.heap.size, 0, none⟩) (World.block_lt_of_cell? _ _ c0) id).trans c0f
          have S3 := Lib.hid (S.out.new_ hdW)
          have F3 := Lib.hid (F.out.then_ hdW)
          have HW3 := Lib.hid (Nat.le_trans HSV.out hdW.size)
          have HDA := Lib.hid hdW
          clear hdW
          refine hK _ _ trivial ?_
          intro hS
          dsimp only [Act.put, Array.setIfInBounds]
          refine wpAnyH_ready (rs := [4]) (by kernel_rfl) (by simp) ?_
          refine AllReadyH.cons rfl (fun K hK => ?_) AllReadyH.nil
          refine step_append_sl _ rfl (.tmp 11) (.tmp 14) 39 rfl (W.heap.size + 2) 50 i50 _ 7 48 Tryd.underlying39 hi hz0 hz1 hz2 rfl (by decide) _ _ _ _ rfl S3.out _ 1 1 (OpR.cs ⟨xk, xa, xo, xt, xfl, xfa, xg⟩) rfl (Rd.fresh W3 50 #[.int .u8 xk, .int .i64 xa, .int .i64 xo, .int .i64 xt, .bool xfl, .bool xfa, .int .i64 xg] rfl) (OpR.cs_one _) HKB.out.1 HKB.out.2 HW3.out ?_
          intro A' cap' w3 hap
          have nbo : ¬ blk A w.heap.size := fun h => by have := (S3.out.ge h).1; have := HSW.out; omega
          have e0 := hap.2.1.cell d1 nbo
          have e0f := (hap.2.1.frozen (p := ⟨w.heap.size, 0, none⟩) (World.block_lt_of_cell? _ _ d1) nbo).trans d1f
          have HAP := Lib.hid hap
          clear hap
          refine hK _ _ trivial ?_
          intro hS
          dsimp only [Act.put, Array.setIfInBounds]
          refine wpAnyH_ready (rs := [5]) (by kernel_rfl) (by simp) ?_
          refine AllReadyH.cons rfl (fun K hK => ?_) AllReadyH.nil
          go_simp
          refine hK _ _ trivial ?_
          intro _
          refine wpAnyH_done (by kernel_rfl) ?_ _
          have nbo' : ∀ j, blk A' j → j ≠ w.heap.size := fun j h e => by have := (HAP.out.1.ge h).1; have := HSW.out; omega
          have FA := HDA.out.none_ (blk A) |>.then_ HAP.out.2.1
          have FT := (FA.mono fun j _ hj => (show j = w.heap.size ∨ W.heap.size + 2 ≤ j from .inr (S.out.ge hj).1)).setCell (p := ⟨w.heap.size, 0, none⟩) (fun _ => .inl rfl) (.slice A' (k + 1) cap')
          have hfin := HAP.out.1.frm (S := fun j => j = w.heap.size) ((Frm.refl w3 (fun j => j = w.heap.size)).setCell (p := ⟨w.heap.size, 0, none⟩) (fun _ => rfl) (.slice A' (k + 1) cap')) nbo'
          refine ⟨FT, A', cap', ?_, ?_, ?_, F.out.fresh FT (fun j hj => hj.elim (fun h => by omega) (fun h => by have := HSW.out; omega))⟩
          · rw [World.cell?_setCell_same _ _ _ e0, show min (k + 1) (zs.length / 4) = k + 1 by omega]
          · rw [World.frozen?_setCell]; exact e0f
          · rw [show min (k + 1) (zs.length / 4) = k + 1 by omega, HPK.out]
            unfold opsV
            rw [List.flatMap_append, List.flatMap_cons, List.flatMap_nil, List.append_nil]
            exact hfin
        · go_simp
          have hdW := (HD.out.alloc (.cells #[.int .u8 xk, .int .i64 xa, .int .i64 xo, .int .i64 xt, .bool xfl, .bool xfa, .int .i64 xg] 50))
          have d1 := hdW.cell c0 id
          have d1f := (hdW.frozen (p := ⟨w.heap.size, 0, none⟩) (World.block_lt_of_cell? _ _ c0) id).trans c0f
          have S3 := Lib.hid (S.out.new_ hdW)
          have F3 := Lib.hid (F.out.then_ hdW)
          have HW3 := Lib.hid (Nat.le_trans HSV.out hdW.size)
          have HDA := Lib.hid hdW
          clear hdW
          refine hK _ _ trivial ?_
          intro hS
          dsimp only [Act.put, Array.setIfInBounds]
          refine wpAnyH_ready (rs := [0]) (by kernel_rfl) (by simp) ?_
          refine AllReadyH.cons rfl (fun K hK => ?_) AllReadyH.nil
          go_simp
          refine hK _ _ trivial ?_
          intro hS
          dsimp only [Act.put, Array.setIfInBounds]
          refine wpAnyH_ready (rs := [4]) (by kernel_rfl) (by simp) ?_
          refine AllReadyH.cons rfl (fun K hK => ?_) AllReadyH.nil
          refine step_append_sl _ rfl (.tmp 11) (.tmp 14) 39 rfl (W.heap.size + 2) 50 i50 _ 7 48 Tryd.underlying39 hi hz0 hz1 hz2 rfl (by decide) _ _ _ _ rfl S3.out _ 1 1 (OpR.cs ⟨xk, xa, xo, xt, xfl, xfa, xg⟩) rfl (Rd.fresh W3 50 #[.int .u8 xk, .int .i64 xa, .int .i64 xo, .int .i64 xt, .bool xfl, .bool xfa, .int .i64 xg] rfl) (OpR.cs_one _) HKB.out.1 HKB.out.2 HW3.out ?_
          intro A' cap' w3 hap
          have nbo : ¬ blk A w.heap.size := fun h => by have := (S3.out.ge h).1; have := HSW.out; omega
          have e0 := hap.2.1.cell d1 nbo
          have e0f := (hap.2.1.frozen (p := ⟨w.heap.size, 0, none⟩) (World.block_lt_of_cell? _ _ d1) nbo).trans d1f
          have HAP := Lib.hid hap
          clear hap
          refine hK _ _ trivial ?_
          intro hS
          dsimp only [Act.put, Array.setIfInBounds]
          refine wpAnyH_ready (rs := [5]) (by kernel_rfl) (by simp) ?_
          refine AllReadyH.cons rfl (fun K hK => ?_) AllReadyH.nil
          go_simp
          refine hK _ _ trivial ?_
          intro _
          refine wpAnyH_done (by kernel_rfl) ?_ _
          have nbo' : ∀ j, blk A' j → j ≠ w.heap.size := fun j h e => by have := (HAP.out.1.ge h).1; have := HSW.out; omega
          have FA := HDA.out.none_ (blk A) |>.then_ HAP.out.2.1
          have FT := (FA.mono fun j _ hj => (show j = w.heap.size ∨ W.heap.size + 2 ≤ j from .inr (S.out.ge hj).1)).setCell (p := ⟨w.heap.size, 0, none⟩) (fun _ => .inl rfl) (.slice A' (k + 1) cap')
          have hfin := HAP.out.1.frm (S := fun j => j = w.heap.size) ((Frm.refl w3 (fun j => j = w.heap.size)).setCell (p := ⟨w.heap.size, 0, none⟩) (fun _ => rfl) (.slice A' (k + 1) cap')) nbo'
          refine ⟨FT, A', cap', ?_, ?_, ?_, F.out.fresh FT (fun j hj => hj.elim (fun h => by omega) (fun h => by have := HSW.out; omega))⟩
          · rw [World.cell?_setCell_same _ _ _ e0, show min (k + 1) (zs.length / 4) = k + 1 by omega]
          · rw [World.frozen?_setCell]; exact e0f
          · rw [show min (k + 1) (zs.length / 4) = k + 1 by omega, HPK.out]
            unfold opsV
            rw [List.flatMap_append, List.flatMap_cons, List.flatMap_nil, List.append_nil]
            exact hfin
    · have hm4 : ((min 4 (n - k * 4) : Nat) : Int) ≠ 4 := by have := HLE.out; omega
      obtain ⟨m, hmm⟩ : ∃ m, min 4 (n - k * 4) = m := ⟨_, rfl⟩
      rw [hmm] at hm4 ⊢
      have e1 : ((m : Int) == 4) = false := by rw [beq_eq_false_iff_ne]; exact hm4
      have e2 : (m == 4) = false := by rw [beq_eq_false_iff_ne]; omega
      clear hm4 hmm
      gi_wp2_with fail
      obtain ⟨A, cap, c0, c0f, hS, hFr⟩ := HI.out
      have hle := parseL_len zs
      refine ⟨Frm.refl _ _, A, cap, ?_, c0f, ?_, hFr⟩
      · rw [show min (k + 1) (zs.length / 4) = min k (zs.length / 4) by omega]; exact c0
      · rw [show min (k + 1) (zs.length / 4) = min k (zs.length / 4) by omega, List.take_of_length_le (by omega)]
        rw [List.take_of_length_le (by omega)] at hS
        exact hS
  case done =>
    intro V hI hD
    obtain ⟨A, cap, c0, c0f, hS, hF⟩ := hI
    rw [List.length_range] at c0 hS
    have e1 : min ((n + 3) / 4) (zs.length / 4) = zs.length / 4 := by have := HLE.out; omega
    rw [e1] at c0 hS
    rw [List.take_of_length_le (by rw [parseL_len]; have := HLE.out; omega)] at hS
    obtain ⟨m, hm⟩ : ∃ m, zs.length / 4 = m := ⟨_, rfl⟩
    have HMM := Lib.hid hm
    have hle := hS.le
    rw [hm] at c0 hS hle
    have S := Lib.hid hS
    have F := Lib.hid hF
    have HDD := Lib.hid hD
    have HSW := Lib.hid hsW
    clear hseq o0 of e1 hm hS hF hD hsW hFW
    go_wp2_with (go_at_call 70; refine (clip70 _ _ _ hle _).mono ?_; rintro e w' ⟨rfl, rfl⟩)
    have hput := putObj_frm V W.heap.size (.deferred none)
    refine ⟨by simp, .inl ⟨_, _, rfl, run_takeDeferred HDD.out, ?_⟩⟩
    refine ⟨.slice A m m, by simp [results, Tryd.results39, go_sem], A, by rw [HMM.out], ?_, F.out.trans hput (fun j hj h => by have := HSW.out; omega)⟩
    rw [HMM.out]
    exact ((S.out.clip (Nat.le_refl _) hle).frm hput (fun j hj h => by have := (S.out.ge hj).1; omega)).mono (by have := HSW.out; omega)
  case stop =>
    intro c k V hk h
    exact h.elim
end Go.Proofs.YtmjpaaippilioaaDoor
