import Derived.Test.YtajcijocjbakbaaTbX
import Derived.Deep.RegionLaw
namespace Go.Proofs.Ytajcijocjbakbaa
open Go.RowKit

/-- A call of a function, as one step of a region that draws. -/
theorem step_call {P : Program} {ops : Array Oper} {o : Oper} {a : Act} {w : World} {K : Act → World → Prop} {Q : Exit → Act → World → Prop} {E : Prop} {R : Ending → World → Prop}
    (hg : o.guard = none) (f : FuncId) {fn : Func} (hf : P.funcs[f]? = some fn) (hn : fn.name ≠ "runtime.NumGoroutine") (hb : fn.body ≠ none)
    (os : Array Operand) (ts : Array TypeId) (hop : o.op = Op.call { callee := Callee.value (Operand.func f), args := os, argTypes := ts }) (args : Array Value) (ha : os.map a.eval = args)
    (h : Calls P f args w R) (hR : ∀ e w', R e w' → ∃ v, e = .returned v ∧ K (a.put o.dst v) w') :
    if Region.wanted o (yielded ops a.tmps) = true then Oper.wp P o a w K Q else E := by
  have hw : Region.wanted o (yielded ops a.tmps) = true := by simp [Region.wanted, hg]
  rw [if_pos hw]
  have hrun : (execOp a.eval o).run P w = .ok (.enter f args) w := by
    subst ha
    simp [execOp, hop, resolve, callFunc, hf, hn, hb, go_sem]
  unfold Oper.wp
  rw [hrun]
  refine h.mono ?_
  intro e w' hr
  obtain ⟨v, rfl, hk⟩ := hR e w' hr
  exact hk
theorem step_call2 {P : Program} {ops : Array Oper} {o : Oper} {a : Act} {w : World} {K : Act → World → Prop} {Q : Exit → Act → World → Prop} {E : Prop} {R : Ending → World → Prop}
    (hg : o.guard = none) (f : FuncId) {fn : Func} (hf : P.funcs[f]? = some fn) (hn : fn.name ≠ "runtime.NumGoroutine") (hb : fn.body ≠ none)
    (x y : Operand) (ts : Array TypeId) (hop : o.op = Op.call { callee := Callee.value (Operand.func f), args := #[x, y], argTypes := ts }) (u v : Value) (hx : a.eval x = u) (hy : a.eval y = v)
    (h : Calls P f #[u, v] w R) (hR : ∀ e w', R e w' → ∃ v, e = .returned v ∧ K (a.put o.dst v) w') :
    if Region.wanted o (yielded ops a.tmps) = true then Oper.wp P o a w K Q else E :=
  step_call hg f hf hn hb #[x, y] ts hop #[u, v] (by simp [hx, hy]) h hR
theorem step_call3 {P : Program} {ops : Array Oper} {o : Oper} {a : Act} {w : World} {K : Act → World → Prop} {Q : Exit → Act → World → Prop} {E : Prop} {R : Ending → World → Prop}
    (hg : o.guard = none) (f : FuncId) {fn : Func} (hf : P.funcs[f]? = some fn) (hn : fn.name ≠ "runtime.NumGoroutine") (hb : fn.body ≠ none)
    (x y z : Operand) (ts : Array TypeId) (hop : o.op = Op.call { callee := Callee.value (Operand.func f), args := #[x, y, z], argTypes := ts }) (u v t : Value) (hx : a.eval x = u) (hy : a.eval y = v) (hz : a.eval z = t)
    (h : Calls P f #[u, v, t] w R) (hR : ∀ e w', R e w' → ∃ v, e = .returned v ∧ K (a.put o.dst v) w') :
    if Region.wanted o (yielded ops a.tmps) = true then Oper.wp P o a w K Q else E :=
  step_call hg f hf hn hb #[x, y, z] ts hop #[u, v, t] (by simp [hx, hy, hz]) h hR
theorem f25n : Try.f25.name ≠ "runtime.NumGoroutine" := by decide
theorem f25b : Try.f25.body ≠ none := by intro h; cases h
theorem f23n : Try.f23.name ≠ "runtime.NumGoroutine" := by decide
theorem f23b : Try.f23.body ≠ none := by intro h; cases h
set_option maxRecDepth 100000 in
set_option maxHeartbeats 1000000 in
theorem placed_any (A : Option Addr) (n c : Nat) (l : List En) (w : World) (hr : Rd w w.heap.size 3 A n (ens l)) (hn : n ≤ 60) (hok : ∀ x ∈ l, EnOk x) :
    Calls Try.prog 8 #[.slice A n c] w fun e w' => ∃ s, e = .returned (.pointer (some ⟨s, 0, none⟩)) ∧ SetV w' w.heap.size s (fun j => w.heap.size ≤ j) (vpl l) ∧ Frm w w' fun _ => False := by
  obtain ⟨i43, hi, hz0, hz1, hz2⟩ := info_parts info43
  have HR := Lib.hid hr
  have HOK := Lib.hid hok
  have hnl := (Rd.ens hr).1
  have HNL := Lib.hid hnl
  clear hr hok hnl
  go_enter Try.func8, Try.ntmps8
  go_wp2_with fail
  refine (new_v 0 _).mono ?_
  rintro _ w1 ⟨s, rfl, hV, hf⟩
  rw [vpl_new] at hV
  have V1 := Lib.hid hV
  have F1 := Lib.hid hf
  clear hV hf
  go_wp2_with fail
  go_loopw [4] (fun i wr => ∃ k : Nat, i = .int .i64 k ∧ k ≤ n ∧ SetV wr w.heap.size s (fun j => w.heap.size ≤ j) (vpl (l.take k)) ∧ Frm w wr fun _ => False) (fun i _ => n - (intOf i).toNat)
  case atStart => exact ⟨0, rfl, Nat.zero_le _, V1.out, F1.out⟩
  case round =>
    obtain ⟨k, rfl, hkn, hV, hF⟩ := hrel
    have V := Lib.hid hV
    have F := Lib.hid hF
    clear hV hF
    by_cases hlk : k < n
    · have k0 : (0 : Int) ≤ (k : Int) := by omega
      have k1 : (k : Int) < (n : Int) := by omega
      have hkl : k < l.length := by have := HNL.out; omega
      obtain ⟨x, hx⟩ : ∃ x, l[k] = x := ⟨_, rfl⟩
      have hxk : l[k]? = some x := by rw [List.getElem?_eq_getElem hkl, hx]
      have hxok := HOK.out x (List.mem_of_getElem? hxk)
      obtain ⟨g, off, rfl, hg, hcell⟩ := (Rd.ens (HR.out.new_ F.out)).2 (by omega)
      obtain ⟨p0, p1, p2⟩ := hcell k hkl
      rw [hx] at p0 p1 p2
      obtain ⟨y, hy⟩ : ∃ y, hk 2 x = y := ⟨_, rfl⟩
      have HH := Lib.hid (fun V => show Calls Try.prog 26 #[.int .u32 x.k, .int .i64 2] V fun e w' => e = .returned (.int .i64 (y : Nat)) ∧ V = w' by rw [← hy]; exact hash_en x hxok 2 (by omega) (by omega) V)
      have HPUT := Lib.hid (vpl_put (l.take k) x y hy)
      have htk : l.take (k + 1) = l.take k ++ [x] := by rw [List.take_add_one, hxk]; rfl
      have HTK := Lib.hid htk
      obtain ⟨q, hq⟩ : ∃ q, vq (vpl (l.take k)) 2 (y : Int) = q := ⟨_, rfl⟩
      have hfewN : VFewN (vpl (l.take k)) 60 := fun d => Nat.le_trans ((vpl_GI (l.take k)).few d) (by rw [List.length_take]; omega)
      have hql : q.length ≤ 60 := by
        rw [← hq]
        unfold vq
        cases hv : vk (vpl (l.take k)) 2 (y : Int) with
        | none => simp
        | some z =>
          have := (vpl_GI (l.take k)).few
          refine Nat.le_trans ?_ (hfewN 2)
          obtain ⟨_, bs, hg', hb'⟩ := vk_some_iff hv
          unfold vrow
          rw [hg', List.flatMap_def]
          have hm : z.2.2 ∈ bs.map (·.2.2) := List.mem_map.2 ⟨z, List.mem_of_getElem? hb', rfl⟩
          exact (List.sublist_flatten_of_mem hm).length_le
      have hqok : ∀ z ∈ q ++ [x], EnOk z := by
        intro z hz
        rcases List.mem_append.1 hz with hz | hz
        · rw [← hq] at hz
          have hlt : y < 2 ^ 2 := by rw [← hy]; exact hs_lt _ 2 (by omega) (by omega)
          have e : vq (vpl (l.take k)) 2 (y : Int) = bk 2 y (l.take k) := (vpl_GI (l.take k)).q y hlt
          rw [e] at hz
          exact HOK.out z (List.mem_of_mem_take (List.mem_filter.1 hz).1)
        · rw [List.mem_singleton] at hz; rw [hz]; exact hxok
      rw [hq] at HPUT
      have HQ0 := Lib.hid hq
      have HQOK := Lib.hid hqok
      have HFEW := Lib.hid (hfewN.few (by omega))
      clear hcell hx hxk hxok hy htk hq hqok hfewN
      go_wp2_with (go_at_call 26; refine (HH.out _).mono ?_; rintro _ _ ⟨rfl, rfl⟩)
      refine at_world' ?_
      intro U hU
      have hFU : Frm wr U fun _ => False := by rw [hU]; exact (Frm.refl _ _).alloc _
      have b0 : U.cell? ⟨wr.heap.size, 0, none⟩ = some (.int .i64 2) := by rw [hU]; go_simp
      have b1 : U.cell? ⟨wr.heap.size, 1, none⟩ = some (.int .i64 (y : Nat)) := by rw [hU]; go_simp
      have hbU : wr.heap.size < U.heap.size := by rw [hU]; simp
      replace p0 := hFU.cell p0 id
      replace p1 := hFU.cell p1 id
      replace p2 := hFU.cell p2 id
      have VU := Lib.hid ((V.out.new_ hFU).sub (O' := fun j => w.heap.size ≤ j) (fun j h _ _ => h))
      have FU := Lib.hid (F.out.then_ hFU)
      have HCE := Lib.hid (And.intro (And.intro b0 b1) (And.intro p0 (And.intro p1 p2)))
      clear hU hFU
      obtain ⟨m, hm⟩ : ∃ m, q.length = m := ⟨_, rfl⟩
      have HQ := Lib.hid (fun V (hf : Frm U V fun _ => False) => show Calls Try.prog 25 #[.pointer (some ⟨s, 0, none⟩), plV 2 (y : Nat)] V fun e w' => ∃ A', e = .returned (.slice A' m m) ∧ Sl w' U.heap.size 3 A' m m (ens q) ∧ Frm V w' fun _ => False by
        have := queue_v (VU.out.new_ hf) HFEW.out 2 (y : Nat)
        rw [HQ0.out, hm] at this
        exact this.mono fun _ _ ⟨A', h1, h2, h3⟩ => ⟨A', h1, h2.mono hf.size, h3⟩)
      have hm60 : m ≤ 60 := by omega
      obtain ⟨r1, r2⟩ : m + 1 ≤ maxLen ∧ (m + 1) * 24 ≤ 140737488355328 := by unfold maxLen; omega
      have HM := Lib.hid hm
      clear hm hql
      go_region_law (first
        | (refine step_call2 rfl 25 Try.func25 f25n f25b _ _ _ rfl (.pointer (some ⟨s, 0, none⟩)) (plV 2 (y : Nat)) rfl rfl (HQ.out _ (by (repeat (first | exact Frm.refl _ _ | apply Frm.drew | apply Frm.alloc)))) ?_; rintro e w2 ⟨A2, rfl, hs2, hf2⟩; refine ⟨_, rfl, ?_⟩; have S2 := Lib.hid hs2; have F2 := Lib.hid (Frm.then_ (a := U) (S := fun _ => False) (by (repeat (first | exact Frm.refl _ _ | apply Frm.drew | apply Frm.alloc))) hf2); have c0 := F2.out.cell HCE.out.1.1 id; have c1 := F2.out.cell HCE.out.1.2 id; have hb2 := Nat.lt_of_lt_of_le hbU F2.out.size; have d0 := F2.out.cell HCE.out.2.1 id; have d1 := F2.out.cell HCE.out.2.2.1 id; have d2 := F2.out.cell HCE.out.2.2.2 id; try (have RB : Hid (Rd w2 w2.heap.size 3 (some ⟨U.heap.size, 0, none⟩) 1 x.V) := Rd.new_ (w := U.drew.alloc (.cells #[.int .i64 x.t, .int .u32 x.k, .int .u64 x.tok] 43)) (Rd.fresh_at U.drew 43 #[.int .i64 x.t, .int .u32 x.k, .int .u64 x.tok] rfl rfl) hf2); clear hs2 hf2)
        | (refine step_append_sl _ rfl (.tmp 24) (.tmp 29) 22 rfl U.heap.size 43 i43 _ 3 24 Try.underlying22 hi hz0 hz1 hz2 rfl (by decide) A2 m m (ens q) rfl (S2.out.alloc _) _ 1 1 x.V rfl (Rd.fresh_at _ 43 #[.int .i64 x.t, .int .u32 x.k, .int .u64 x.tok] rfl rfl) x.one r1 r2 (F2.out.alloc _).size ?_; intro A3 cap3 w3 hap; replace hap := Lib.hid hap; have F3 := Lib.hid ((F2.out.alloc _).fresh hap.out.2.1 (fun j hj => (S2.out.ge hj).1)); have c0 := F3.out.cell HCE.out.1.1 id; have c1 := F3.out.cell HCE.out.1.2 id; have hX3 : Hid (A3 = none → cap3 = 0) := Lib.hid (fun h => by obtain ⟨g3, o3, e3, _⟩ := hap.out.1.form (by have := hap.out.1.le; omega); rw [h] at e3; cases e3))
        | (refine step_append_sl _ rfl (.tmp 24) (.tmp 29) 22 rfl U.heap.size 43 i43 _ 3 24 Try.underlying22 hi hz0 hz1 hz2 rfl (by decide) A2 m m (ens q) rfl (S2.out) _ 1 1 x.V rfl (RB.out) x.one r1 r2 (F2.out).size ?_; intro A3 cap3 w3 hap; replace hap := Lib.hid hap; have F3 := Lib.hid ((F2.out).fresh hap.out.2.1 (fun j hj => (S2.out.ge hj).1)); have c0 := F3.out.cell HCE.out.1.1 id; have c1 := F3.out.cell HCE.out.1.2 id; have hX3 : Hid (A3 = none → cap3 = 0) := Lib.hid (fun h => by obtain ⟨g3, o3, e3, _⟩ := hap.out.1.form (by have := hap.out.1.le; omega); rw [h] at e3; cases e3))
        | (refine step_call3 rfl 23 Try.func23 f23n f23b (.tmp 20) (.tmp 21) (.tmp 30) _ rfl (.pointer (some ⟨s, 0, none⟩)) (plV 2 (y : Nat)) (.slice A3 (m + 1) cap3) rfl rfl rfl (put_v (VU.out.new_ F3.out) 2 (y : Nat) A3 (m + 1) cap3 (q ++ [x]) (by rw [ens_snoc]; exact hap.out.1.rd) hX3.out hap.out.1.le (by omega) HQOK.out) ?_; rintro e w4 ⟨rfl, hV, hf⟩; refine ⟨_, rfl, ?_⟩; have V4 := Lib.hid hV; have F4 := Lib.hid hf; clear hV hf))
      all_goals
        go_wp2_with fail
        go_roundw
        case rel =>
          have hsU := FU.out.size
          refine ⟨k + 1, by go_num, by omega, ?_, (FU.out.then_ F3.out).fresh F4.out fun j hj => hj⟩
          have := V4.out.sub (O' := fun j => w.heap.size ≤ j) (fun j h1 _ _ => h1)
          rw [HPUT.out, ← HTK.out] at this
          exact this
        case measure => simp [intOf]; omega
    · obtain rfl : k = n := by omega
      have hV := V.out
      rw [List.take_of_length_le (by rw [← HNL.out]; exact Nat.le_refl _)] at hV
      have V9 := Lib.hid hV
      clear hV
      go_wp2_with fail
      go_ret
      exact ⟨s, rfl, V9.out, F.out⟩
end Go.Proofs.Ytajcijocjbakbaa
