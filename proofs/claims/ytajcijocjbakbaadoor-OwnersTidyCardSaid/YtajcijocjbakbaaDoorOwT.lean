import Derived.Test.YtajcijocjbakbaaDoorOwN
import Derived.Test.YtajcijocjbakbaaDoorTie
import Derived.Test.YtajcijocjbakbaaDoorCards
import Derived.ProofKit
import Derived.LaidMore
import Derived.OpenShut
import Derived.ChangeOld
import Derived.Stop.Joined
namespace Go.Proofs.YtajcijocjbakbaaDoor
open Go.ChangeShapes Go.WideShapes Go.ChangeAt Go.WideMaps Go.WideElems Go.RowKit

theorem ownD : ownKnob Tryd.prog.godebug = none := by kernel_rfl
theorem list7 {cs : List Value} (h : cs.length = 7) : ∃ a b c d e f g, cs = [a, b, c, d, e, f, g] := by
  match cs, h with
  | [a, b, c, d, e, f, g], _ => exact ⟨a, b, c, d, e, f, g, rfl⟩
theorem list5 {cs : List Value} (h : cs.length = 5) : ∃ a b c d e, cs = [a, b, c, d, e] := by
  match cs, h with
  | [a, b, c, d, e], _ => exact ⟨a, b, c, d, e, rfl⟩
theorem cT3 : Tryd.prog.cellsOf 3 = 1 := by kernel_rfl
theorem cT4 : Tryd.prog.cellsOf 4 = 1 := by kernel_rfl
theorem cT5 : Tryd.prog.cellsOf 5 = 1 := by kernel_rfl
theorem cT9 : Tryd.prog.cellsOf 9 = 1 := by kernel_rfl
theorem cT27 : Tryd.prog.cellsOf 27 = 1 := by kernel_rfl
theorem cT32 : Tryd.prog.cellsOf 32 = 1 := by kernel_rfl
theorem cT34 : Tryd.prog.cellsOf 34 = 7 := by kernel_rfl
theorem cT37 : Tryd.prog.cellsOf 37 = 1 := by kernel_rfl
theorem cT44 : Tryd.prog.cellsOf 44 = 1 := by kernel_rfl
def OpOk (x : OpR) : Prop := 0 ≤ x.k ∧ x.k ≤ 255
section
variable {H : Type} {enc : TypeId × Value → H} {W : World} {spare : Nat → Bool} {held : Bool}
set_option maxRecDepth 100000 in
theorem op_cs {n : Nat} {cs : List Value} {y : DataW H × List MemPlace} (h : DataW.trod enc Tryd.prog W 0 spare held n 34 cs = some y) : ∃ x, cs = OpR.cs x ∧ OpOk x := by
  obtain ⟨xs, k, _, _, hlen, hxl, hf⟩ := DataW.trod_struct Tryd.underlying34 h
  obtain ⟨a, b, c, d, e, f, g, rfl⟩ := list7 (hlen.trans cT34)
  have get : ∀ i, i < 7 → ∃ y, xs[i]? = some y := fun i hi => ⟨xs[i]'(by rw [hxl]; exact hi), List.getElem?_eq_getElem _⟩
  obtain ⟨y0, g0⟩ := get 0 (by decide)
  obtain ⟨y1, g1⟩ := get 1 (by decide)
  obtain ⟨y2, g2⟩ := get 2 (by decide)
  obtain ⟨y3, g3⟩ := get 3 (by decide)
  obtain ⟨y4, g4⟩ := get 4 (by decide)
  obtain ⟨y5, g5⟩ := get 5 (by decide)
  obtain ⟨y6, g6⟩ := get 6 (by decide)
  have h0 := hf 0 _ rfl
  have h1 := hf 1 _ rfl
  have h2 := hf 2 _ rfl
  have h3 := hf 3 _ rfl
  have h4 := hf 4 _ rfl
  have h5 := hf 5 _ rfl
  have h6 := hf 6 _ rfl
  simp [g0, g1, g2, g3, g4, g5, g6, cT32, cT3, cT4] at h0 h1 h2 h3 h4 h5 h6
  obtain ⟨x0, e0, _, w0⟩ := DataW.trod_int Tryd.underlying32 h0
  obtain ⟨x1, e1, _, _⟩ := DataW.trod_int Tryd.underlying3 h1
  obtain ⟨x2, e2, _, _⟩ := DataW.trod_int Tryd.underlying3 h2
  obtain ⟨x3, e3, _, _⟩ := DataW.trod_int Tryd.underlying3 h3
  obtain ⟨x4, e4, _⟩ := DataW.trod_bool Tryd.underlying4 h4
  obtain ⟨x5, e5, _⟩ := DataW.trod_bool Tryd.underlying4 h5
  obtain ⟨x6, e6, _, _⟩ := DataW.trod_int Tryd.underlying3 h6
  simp at e0 e1 e2 e3 e4 e5 e6
  subst e0 e1 e2 e3 e4 e5 e6
  exact ⟨⟨x0, x1, x2, x3, x4, x5, x6⟩, rfl, bounds_u8 w0⟩
theorem open_ops {base : Nat} {v : Value} {d : DataW H} {p : List MemPlace} (hv : Value.okWide Tryd.prog W .any base 22 v) (h : DataW.Trod enc Tryd.prog W 0 spare held 22 v d p) :
    ∃ (A : Option Addr) (len cap : Nat) (xs : List OpR), v = .slice A len cap ∧ Rd W W.heap.size 7 A len (xs.flatMap OpR.cs) ∧ ∀ x ∈ xs, OpOk x := by
  obtain ⟨A, len, cap, xs, rfl, _, _, _, hr, hok⟩ := open_rows OpR.cs OpOk 7 OpR.cs_len (by decide) (fun _ _ _ h => op_cs h) Tryd.underlying22 cT34 hv h
  exact ⟨A, len, cap, xs, rfl, hr, hok⟩
theorem open_bytes {base : Nat} {v : Value} {d : DataW H} {p : List MemPlace} (hv : Value.okWide Tryd.prog W .any base 23 v) (h : DataW.Trod enc Tryd.prog W 0 spare held 23 v d p) :
    ∃ (A : Option Addr) (len cap : Nat) (l : List Nat), v = .slice A len cap ∧ Rd W W.heap.size 1 A len (bz l) ∧ ∀ c ∈ l, c ≤ 255 := by
  obtain ⟨A, len, cap, zs, rfl, hl, hm, hz, hr, hw⟩ := open_nums Tryd.underlying23 Tryd.underlying5 cT5 hv h
  have e : bz (zs.map Int.toNat) = zs.map (Value.int .u8) := by
    unfold bz
    rw [List.map_map]
    refine List.map_congr_left fun n hn => ?_
    have := bounds_u8 (hw n hn)
    show Value.int .u8 ((n.toNat : Nat) : Int) = _
    rw [Int.toNat_of_nonneg this.1]
  refine ⟨A, len, cap, zs.map Int.toNat, rfl, by rw [e]; exact hr, fun c hc => ?_⟩
  obtain ⟨n, hn, rfl⟩ := List.mem_map.1 hc
  have := bounds_u8 (hw n hn)
  omega
end
/-! ### the tables in the row's condition -/
def Use.D (u : Use) : DataW Unit := .agg [.lit (.string u.word.data.toList), .lit (.int .u32 u.first), .lit (.int .u32 u.other), .lit (.bool u.ticks), .lit (.string u.flag.data.toList), .lit (.bool u.fails), .lit (.int .i64 u.args)]
def Ask.D (a : Ask) : DataW Unit := .agg [.lit (.bool a.is), .lit (.int .u8 a.from_), .lit (.int .u8 a.to_), .lit (.int .i64 a.e), .lit (.bool a.other)]
theorem uses_eq : (Rows.laid_layby_programs_uses : DataW Unit) = .agg (usesL.map Use.D) := by rfl
theorem asks_eq : (Rows.laid_layby_owners_asks : DataW Unit) = .agg (asksL.map Ask.D) := by rfl
theorem bytes_ext {s t : ByteArray} (h : s.data.toList = t.data.toList) : s = t := by
  cases s; cases t
  simp only [ByteArray.mk.injEq]
  exact Array.toList_inj.1 h
section
variable {W : World} {spare : Nat → Bool} {held : Bool}
set_option maxRecDepth 100000 in
theorem use_cs {n : Nat} {cs : List Value} {y : DataW Unit × List MemPlace} {u : Use} (h : DataW.trod (fun _ => ()) Tryd.prog W 0 spare held n 62 cs = some y) (hy : y.1 = u.D) : cs = u.V := by
  obtain ⟨xs, k, _, ex, hlen, hxl, hf⟩ := DataW.trod_struct Tryd.underlying62 h
  obtain ⟨a, b, c, d, e, f, g, rfl⟩ := list7 (hlen.trans (by kernel_rfl))
  have get : ∀ i, i < 7 → ∃ y, xs[i]? = some y := fun i hi => ⟨xs[i]'(by rw [hxl]; exact hi), List.getElem?_eq_getElem _⟩
  obtain ⟨y0, g0⟩ := get 0 (by decide)
  obtain ⟨y1, g1⟩ := get 1 (by decide)
  obtain ⟨y2, g2⟩ := get 2 (by decide)
  obtain ⟨y3, g3⟩ := get 3 (by decide)
  obtain ⟨y4, g4⟩ := get 4 (by decide)
  obtain ⟨y5, g5⟩ := get 5 (by decide)
  obtain ⟨y6, g6⟩ := get 6 (by decide)
  rw [ex] at hy
  have hm := DataW.agg.inj hy
  have q : ∀ (i : Nat) (z : DataW Unit × List MemPlace), xs[i]? = some z → ([.lit (.string u.word.data.toList), .lit (.int .u32 u.first), .lit (.int .u32 u.other), .lit (.bool u.ticks), .lit (.string u.flag.data.toList), .lit (.bool u.fails), .lit (.int .i64 u.args)] : List (DataW Unit))[i]? = some z.1 := fun i z hz => by
    rw [← hm, List.getElem?_map, hz]
    rfl
  have q0 := q 0 _ g0
  have q1 := q 1 _ g1
  have q2 := q 2 _ g2
  have q3 := q 3 _ g3
  have q4 := q 4 _ g4
  have q5 := q 5 _ g5
  have q6 := q 6 _ g6
  have h0 := hf 0 _ rfl
  have h1 := hf 1 _ rfl
  have h2 := hf 2 _ rfl
  have h3 := hf 3 _ rfl
  have h4 := hf 4 _ rfl
  have h5 := hf 5 _ rfl
  have h6 := hf 6 _ rfl
  simp [g0, g1, g2, g3, g4, g5, g6, cT9, cT37, cT3, cT4] at h0 h1 h2 h3 h4 h5 h6
  obtain ⟨x0, e0, r0, _⟩ := DataW.trod_string Tryd.underlying9 h0
  obtain ⟨x1, e1, r1, _⟩ := DataW.trod_int Tryd.underlying37 h1
  obtain ⟨x2, e2, r2, _⟩ := DataW.trod_int Tryd.underlying37 h2
  obtain ⟨x3, e3, r3⟩ := DataW.trod_bool Tryd.underlying4 h3
  obtain ⟨x4, e4, r4, _⟩ := DataW.trod_string Tryd.underlying9 h4
  obtain ⟨x5, e5, r5⟩ := DataW.trod_bool Tryd.underlying4 h5
  obtain ⟨x6, e6, r6, _⟩ := DataW.trod_int Tryd.underlying3 h6
  rw [r0] at q0
  rw [r1] at q1
  rw [r2] at q2
  rw [r3] at q3
  rw [r4] at q4
  rw [r5] at q5
  rw [r6] at q6
  simp at e0 e1 e2 e3 e4 e5 e6 q0 q1 q2 q3 q4 q5 q6
  have q0 : x0 = u.word := bytes_ext (by simpa using q0.symm)
  have q4 : x4 = u.flag := bytes_ext (by simpa using q4.symm)
  rw [e0, e1, e2, e3, e4, e5, e6, q0, ← q1, ← q2, ← q3, q4, ← q5, ← q6]
  rfl
set_option maxRecDepth 100000 in
theorem ask_cs {n : Nat} {cs : List Value} {y : DataW Unit × List MemPlace} {u : Ask} (h : DataW.trod (fun _ => ()) Tryd.prog W 0 spare held n 56 cs = some y) (hy : y.1 = u.D) : cs = u.V := by
  obtain ⟨xs, k, _, ex, hlen, hxl, hf⟩ := DataW.trod_struct Tryd.underlying56 h
  obtain ⟨a, b, c, d, e, rfl⟩ := list5 (hlen.trans (by kernel_rfl))
  have get : ∀ i, i < 5 → ∃ y, xs[i]? = some y := fun i hi => ⟨xs[i]'(by rw [hxl]; exact hi), List.getElem?_eq_getElem _⟩
  obtain ⟨y0, g0⟩ := get 0 (by decide)
  obtain ⟨y1, g1⟩ := get 1 (by decide)
  obtain ⟨y2, g2⟩ := get 2 (by decide)
  obtain ⟨y3, g3⟩ := get 3 (by decide)
  obtain ⟨y4, g4⟩ := get 4 (by decide)
  rw [ex] at hy
  have hm := DataW.agg.inj hy
  have q : ∀ (i : Nat) (z : DataW Unit × List MemPlace), xs[i]? = some z → ([.lit (.bool u.is), .lit (.int .u8 u.from_), .lit (.int .u8 u.to_), .lit (.int .i64 u.e), .lit (.bool u.other)] : List (DataW Unit))[i]? = some z.1 := fun i z hz => by
    rw [← hm, List.getElem?_map, hz]
    rfl
  have q0 := q 0 _ g0
  have q1 := q 1 _ g1
  have q2 := q 2 _ g2
  have q3 := q 3 _ g3
  have q4 := q 4 _ g4
  have h0 := hf 0 _ rfl
  have h1 := hf 1 _ rfl
  have h2 := hf 2 _ rfl
  have h3 := hf 3 _ rfl
  have h4 := hf 4 _ rfl
  simp [g0, g1, g2, g3, g4, cT44, cT27, cT4] at h0 h1 h2 h3 h4
  obtain ⟨x0, e0, r0⟩ := DataW.trod_bool Tryd.underlying4 h0
  obtain ⟨x1, e1, r1, _⟩ := DataW.trod_int Tryd.underlying44 h1
  obtain ⟨x2, e2, r2, _⟩ := DataW.trod_int Tryd.underlying44 h2
  obtain ⟨x3, e3, r3, _⟩ := DataW.trod_int Tryd.underlying27 h3
  obtain ⟨x4, e4, r4⟩ := DataW.trod_bool Tryd.underlying4 h4
  rw [r0] at q0
  rw [r1] at q1
  rw [r2] at q2
  rw [r3] at q3
  rw [r4] at q4
  simp at e0 e1 e2 e3 e4 q0 q1 q2 q3 q4
  rw [e0, e1, e2, e3, e4, ← q0, ← q1, ← q2, ← q3, ← q4]
  rfl
end
/-- What a listed variable reads as. -/
theorem laid_at {P : Program} {W : World} {n : String} {d : DataW Unit} : ∀ (l : List (String × DataW Unit)) (ps : List MemPlace), DataW.LaidVars P W l ps → (n, d) ∈ l →
    ∃ g t cs fuel p, P.globalNamed n = some g ∧ (P.globals[g]?).map (·.type) = some t ∧ W.var? P n = some cs ∧ DataW.trod (fun _ => ()) P W 0 (fun _ => true) false fuel t cs.toList = some (d, p)
  | [], _, _, hm => by cases hm
  | (n', d') :: r, ps, h, hm => by
    obtain ⟨g, t, cs, fuel, p, q, h1, h2, h3, h4, h5, _⟩ := h
    rcases List.mem_cons.1 hm with e | hm
    · injection e with e1 e2
      subst e1 e2
      exact ⟨g, t, cs, fuel, p, h1, h2, h3, h4⟩
    · exact laid_at r q h5 hm
/-- A laid table of structs. -/
theorem rows_of_laid {α : Type} {W : World} {n : String} {g : Nat} {t e : TypeId} {m : Nat} {l : List α} (D : α → DataW Unit) (V : α → List Value) (hV : ∀ x, (V x).length = m) (hg : Tryd.prog.globalNamed n = some g) (hty : (Tryd.prog.globals[g]?).map (·.type) = some t)
    (hu : Tryd.prog.underlying t = some (.array l.length e)) (ce : Tryd.prog.cellsOf e = m)
    (key : ∀ (n : Nat) (cs : List Value) (y : DataW Unit × List MemPlace) (u : α), DataW.trod (fun _ => ()) Tryd.prog W 0 (fun _ => true) false n e cs = some y → y.1 = D u → cs = V u)
    (h : ∃ g t cs fuel p, Tryd.prog.globalNamed n = some g ∧ (Tryd.prog.globals[g]?).map (·.type) = some t ∧ W.var? Tryd.prog n = some cs ∧ DataW.trod (fun _ => ()) Tryd.prog W 0 (fun _ => true) false fuel t cs.toList = some ((.agg (l.map D) : DataW Unit), p)) :
    ∀ k (hk : k < l.length) j v, (V l[k])[j]? = some v → W.cell? ⟨g, k * m + j, none⟩ = some v := by
  obtain ⟨g', t', cs, fuel, p, hg', ht', hv, hd⟩ := h
  obtain rfl := Option.some.inj (hg.symm.trans hg')
  obtain rfl := Option.some.inj (hty.symm.trans ht')
  obtain ⟨xs, q, _, ex, hlen, hl, hel⟩ := DataW.trod_array hu hd
  have e3 : l.map D = xs.map (·.1) := DataW.agg.inj (Prod.mk.inj ex).1
  intro k hk j v hj
  have hk' := hel k hk
  rw [ce, List.getElem?_eq_getElem (by omega)] at hk'
  have hy : (xs[k]'(by omega)).1 = D l[k] := by
    have := congrArg (·[k]?) e3
    simp only [List.getElem?_map, List.getElem?_eq_getElem hk, List.getElem?_eq_getElem (show k < xs.length by omega)] at this
    exact (Option.some.inj this).symm
  have hc := key _ _ _ _ hk' hy
  have hjm : j < m := by have := (List.getElem?_eq_some_iff.1 hj).1; rw [hV] at this; exact this
  rw [World.var?_cell hg hv, ← hj, ← hc, List.getElem?_take, if_pos hjm, List.getElem?_drop]
  simp
abbrev laidO : List (String × DataW Unit) := [("layby/programs.uses", Rows.laid_layby_programs_uses), ("layby/owners.asks", Rows.laid_layby_owners_asks)]
theorem tabs_of {W : World} (h0 : ∃ g t cs fuel p, Tryd.prog.globalNamed "layby/programs.uses" = some g ∧ (Tryd.prog.globals[g]?).map (·.type) = some t ∧ W.var? Tryd.prog "layby/programs.uses" = some cs ∧ DataW.trod (fun _ => ()) Tryd.prog W 0 (fun _ => true) false fuel t cs.toList = some ((Rows.laid_layby_programs_uses : DataW Unit), p))
    (h1 : ∃ g t cs fuel p, Tryd.prog.globalNamed "layby/owners.asks" = some g ∧ (Tryd.prog.globals[g]?).map (·.type) = some t ∧ W.var? Tryd.prog "layby/owners.asks" = some cs ∧ DataW.trod (fun _ => ()) Tryd.prog W 0 (fun _ => true) false fuel t cs.toList = some ((Rows.laid_layby_owners_asks : DataW Unit), p)) : T0 W := by
  rw [uses_eq] at h0
  rw [asks_eq] at h1
  have a0 := rows_of_laid (g := 0) (t := 63) (e := 62) (m := 7) (l := usesL) Use.D Use.V (fun _ => rfl) (by kernel_rfl) (by kernel_rfl) Tryd.underlying63 (by kernel_rfl) (fun _ _ _ _ h hy => use_cs h hy) h0
  have a1 := rows_of_laid (g := 1) (t := 71) (e := 56) (m := 5) (l := asksL) Ask.D Ask.V (fun _ => rfl) (by kernel_rfl) (by kernel_rfl) Tryd.underlying71 (by kernel_rfl) (fun _ _ _ _ h hy => ask_cs h hy) h1
  have lU : usesL.length = 26 := rfl
  have lA : asksL.length = 26 := rfl
  have hU : ∀ k (hk : k < 26), Ut k = usesL[k]'(by rw [lU]; exact hk) := fun k hk => by unfold Ut; rw [List.getD_eq_getElem?_getD, List.getElem?_eq_getElem (by rw [lU]; exact hk)]; rfl
  have hA : ∀ k (hk : k < 26), At k = asksL[k]'(by rw [lA]; exact hk) := fun k hk => by unfold At; rw [List.getD_eq_getElem?_getD, List.getElem?_eq_getElem (by rw [lA]; exact hk)]; rfl
  refine ⟨⟨fun k hk j v hv => a0 k (by rw [lU]; exact hk) j v (by rw [← hU k hk]; exact hv), fun k hk j v hv => a1 k (by rw [lA]; exact hk) j v (by rw [← hA k hk]; exact hv)⟩, ?_⟩
  exact World.block_lt_of_cell? W _ (a1 0 (by decide) 0 _ rfl)
theorem t0_of_laid {W : World} (h : laidMetH Tryd.prog laidO W) : T0 W := by
  rw [MakeChecks.laidMetH_plain _ _ _ (by kernel_rfl)] at h
  obtain ⟨ps, hl, _, _⟩ := h
  exact tabs_of (laid_at laidO ps hl (by simp [laidO])) (laid_at laidO ps hl (by simp [laidO]))
/-- The door's own heap meets the condition. -/
theorem door_metO (os : Os) (args : Array Value) : laidMetH Tryd.prog laidO ((World.doorLaid Tryd.prog 4000 os).forCall (fun _ _ => 0) ⟨#[], args, []⟩).memory :=
  laidMetH_of_parts3 (fuel := 8) (laidMet_of_run' 8 (by kernel_rfl) (by kernel_rfl)) (by kernel_rfl) (by kernel_rfl)
end Go.Proofs.YtajcijocjbakbaaDoor
