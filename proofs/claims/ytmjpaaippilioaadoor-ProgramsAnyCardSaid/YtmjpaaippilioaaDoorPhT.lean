import Derived.Test.YtmjpaaippilioaaDoorPgW
import Derived.Test.YtmjpaaippilioaaDoorTie
import Derived.Test.YtmjpaaippilioaaDoorCards
import Derived.ProofKit
import Derived.LaidMore
import Derived.OpenShut
import Derived.ChangeOld
import Derived.Stop.Joined
import Derived.Test.YtmjpaaippilioaaDoorOpr
namespace Go.Proofs.YtmjpaaippilioaaDoor
open Go.ChangeShapes Go.WideShapes Go.ChangeAt Go.WideMaps Go.WideElems Go.RowKit

theorem ownD : ownKnob Tryd.prog.godebug = none := by kernel_rfl
/-- What a listed variable reads as. -/
theorem laid_at {P : Program} {W : World} {n : String} {d : DataW Unit} : ∀ (l : List (String × DataW Unit)) (ps : List MemPlace), DataW.LaidVars P W l ps → (n, d) ∈ l →
    ∃ g t cs fuel p, P.globalNamed n = some g ∧ (P.globals[g]?).map (·.type) = some t ∧ W.var? P n = some cs ∧ DataW.trod (fun _ => ()) P W 0 (fun _ => true) false fuel t cs.toList = some (d, p)
  | [], _, _, hm => by cases hm
  | (n', d') :: r, ps, h, hm => by
    obtain ⟨g, t, cs, fuel, p, q, h1, h2, h3, h4, h5, _⟩ := h
    rcases List.mem_cons.1 hm with e | hm
    · injection e with e1 e2
      subst e1 e2
      exact ⟨g, t, cs, fuel, p, h1, h2, h3, h4⟩
    · exact laid_at r q h5 hm
theorem pow_of_laid {W : World} (h : ∃ g t cs fuel p, Tryd.prog.globalNamed "internal/strconv.uint64pow10" = some g ∧ (Tryd.prog.globals[g]?).map (·.type) = some t ∧ W.var? Tryd.prog "internal/strconv.uint64pow10" = some cs ∧ DataW.trod (fun _ => ()) Tryd.prog W 0 (fun _ => true) false fuel t cs.toList = some ((Lib.tabData .u64 Lib.pow10Tab : DataW Unit), p)) : Pow W := by
  obtain ⟨g', t', cs, fuel, p, hg', ht', hv, hd⟩ := h
  obtain rfl := Option.some.inj (gPow.symm.trans hg')
  obtain rfl := Option.some.inj ((show (Tryd.prog.globals[5]?).map (·.type) = some 148 by kernel_rfl).symm.trans ht')
  unfold Pow Lib.TabIs
  rw [hv, ← Lib.cells_of_tab (n := 20) Tryd.underlying148 Tryd.underlying24 (by kernel_rfl) (by kernel_rfl) hd]
set_option maxRecDepth 100000 in
/-- An argument of 64 bits. -/
theorem open_u64 {H : Type} {enc : TypeId × Value → H} {W : World} {base : Nat} {v : Value} {d : DataW H} {p : List MemPlace} {spare : Nat → Bool} {held : Bool}
    (hv : Value.okWide Tryd.prog W .any base 24 v) (h : DataW.Trod enc Tryd.prog W 0 spare held 24 v d p) :
    ∃ n : Nat, v = .int .u64 n ∧ d = .lit (.int .u64 n) ∧ p = [] ∧ (n : Int) ≤ 18446744073709551615 := by
  obtain ⟨b, rfl, rfl, rfl, wb⟩ := open_int Tryd.underlying24 hv h
  have := bounds_u64 wb
  obtain ⟨n, rfl⟩ := Int.eq_ofNat_of_zero_le this.1
  exact ⟨n, rfl, rfl, rfl, this.2⟩
theorem list7 {cs : List Value} (h : cs.length = 7) : ∃ a b c d e f g, cs = [a, b, c, d, e, f, g] := by
  match cs, h with
  | [a, b, c, d, e, f, g], _ => exact ⟨a, b, c, d, e, f, g, rfl⟩
theorem cT3 : Tryd.prog.cellsOf 3 = 1 := by kernel_rfl
theorem cT4 : Tryd.prog.cellsOf 4 = 1 := by kernel_rfl
theorem cT5 : Tryd.prog.cellsOf 5 = 1 := by kernel_rfl
theorem cT9 : Tryd.prog.cellsOf 9 = 1 := by kernel_rfl
theorem cT48 : Tryd.prog.cellsOf 48 = 1 := by kernel_rfl
theorem cT50 : Tryd.prog.cellsOf 50 = 7 := by kernel_rfl
theorem cT66 : Tryd.prog.cellsOf 66 = 1 := by kernel_rfl
def OpOk (x : OpR) : Prop := 0 ≤ x.k ∧ x.k ≤ 255
section
variable {H : Type} {enc : TypeId × Value → H} {W : World} {spare : Nat → Bool} {held : Bool}
set_option maxRecDepth 100000 in
theorem op_cs {n : Nat} {cs : List Value} {y : DataW H × List MemPlace} (h : DataW.trod enc Tryd.prog W 0 spare held n 50 cs = some y) : ∃ x, cs = OpR.cs x ∧ OpOk x := by
  obtain ⟨xs, k, _, _, hlen, hxl, hf⟩ := DataW.trod_struct Tryd.underlying50 h
  obtain ⟨a, b, c, d, e, f, g, rfl⟩ := list7 (hlen.trans cT50)
  have get : ∀ i, i < 7 → ∃ y, xs[i]? = some y := fun i hi => ⟨xs[i]'(by rw [hxl]; exact hi), List.getElem?_eq_getElem _⟩
  obtain ⟨y0, g0⟩ := get 0 (by decide)
  obtain ⟨y1, g1⟩ := get 1 (by decide)
  obtain ⟨y2, g2⟩ := get 2 (by decide)
  obtain ⟨y3, g3⟩ := get 3 (by decide)
  obtain ⟨y4, g4⟩ := get 4 (by decide)
  obtain ⟨y5, g5⟩ := get 5 (by decide)
  obtain ⟨y6, g6⟩ := get 6 (by decide)
  have h0 := hf 0 _ rfl
  have h1 := hf 1 _ rfl
  have h2 := hf 2 _ rfl
  have h3 := hf 3 _ rfl
  have h4 := hf 4 _ rfl
  have h5 := hf 5 _ rfl
  have h6 := hf 6 _ rfl
  simp [g0, g1, g2, g3, g4, g5, g6, cT48, cT3, cT4] at h0 h1 h2 h3 h4 h5 h6
  obtain ⟨x0, e0, _, w0⟩ := DataW.trod_int Tryd.underlying48 h0
  obtain ⟨x1, e1, _, _⟩ := DataW.trod_int Tryd.underlying3 h1
  obtain ⟨x2, e2, _, _⟩ := DataW.trod_int Tryd.underlying3 h2
  obtain ⟨x3, e3, _, _⟩ := DataW.trod_int Tryd.underlying3 h3
  obtain ⟨x4, e4, _⟩ := DataW.trod_bool Tryd.underlying4 h4
  obtain ⟨x5, e5, _⟩ := DataW.trod_bool Tryd.underlying4 h5
  obtain ⟨x6, e6, _, _⟩ := DataW.trod_int Tryd.underlying3 h6
  simp at e0 e1 e2 e3 e4 e5 e6
  subst e0 e1 e2 e3 e4 e5 e6
  exact ⟨⟨x0, x1, x2, x3, x4, x5, x6⟩, rfl, bounds_u8 w0⟩
set_option maxRecDepth 100000 in
theorem open_ops {base : Nat} {v : Value} {d : DataW H} {p : List MemPlace} (hv : Value.okWide Tryd.prog W .any base 39 v) (h : DataW.Trod enc Tryd.prog W 0 spare held 39 v d p) :
    ∃ (A : Option Addr) (len cap : Nat) (xs : List OpR), v = .slice A len cap ∧ Rd W W.heap.size 7 A len (xs.flatMap OpR.cs) ∧ ∀ x ∈ xs, OpOk x := by
  obtain ⟨A, len, cap, xs, rfl, _, _, _, hr, hok⟩ := open_rows OpR.cs OpOk 7 OpR.cs_len (by decide) (fun _ _ _ h => op_cs h) Tryd.underlying39 cT50 hv h
  exact ⟨A, len, cap, xs, rfl, hr, hok⟩
set_option maxRecDepth 100000 in
theorem open_bytes {base : Nat} {v : Value} {d : DataW H} {p : List MemPlace} (hv : Value.okWide Tryd.prog W .any base 38 v) (h : DataW.Trod enc Tryd.prog W 0 spare held 38 v d p) :
    ∃ (A : Option Addr) (len cap : Nat) (l : List Nat), v = .slice A len cap ∧ Rd W W.heap.size 1 A len (bz l) ∧ (∀ c ∈ l, c ≤ 255) ∧ len ≤ cap ∧ cap ≤ maxLen := by
  obtain ⟨A, len, cap, zs, rfl, hl, hm, hz, hr, hw⟩ := open_nums Tryd.underlying38 Tryd.underlying5 cT5 hv h
  have e : bz (zs.map Int.toNat) = zs.map (Value.int .u8) := by
    unfold bz
    rw [List.map_map]
    refine List.map_congr_left fun n hn => ?_
    have := bounds_u8 (hw n hn)
    show Value.int .u8 ((n.toNat : Nat) : Int) = _
    rw [Int.toNat_of_nonneg this.1]
  refine ⟨A, len, cap, zs.map Int.toNat, rfl, by rw [e]; exact hr, fun c hc => ?_, hl, hm⟩
  obtain ⟨n, hn, rfl⟩ := List.mem_map.1 hc
  have := bounds_u8 (hw n hn)
  omega
end
/-! ### the tables in the row's condition -/
def Use.D (u : Use) : DataW Unit := .agg [.lit (.string u.word.data.toList), .lit (.int .u32 u.first), .lit (.int .u32 u.other), .lit (.bool u.ticks), .lit (.string u.flag.data.toList), .lit (.bool u.fails), .lit (.int .i64 u.args)]
theorem uses_eq : (Rows.laid_layby_programs_uses : DataW Unit) = .agg (usesL.map Use.D) := by rfl
theorem bytes_ext {s t : ByteArray} (h : s.data.toList = t.data.toList) : s = t := by
  cases s; cases t
  simp only [ByteArray.mk.injEq]
  exact Array.toList_inj.1 h
section
variable {W : World} {spare : Nat → Bool} {held : Bool}
set_option maxRecDepth 100000 in
theorem use_cs {n : Nat} {cs : List Value} {y : DataW Unit × List MemPlace} {u : Use} (h : DataW.trod (fun _ => ()) Tryd.prog W 0 spare held n 112 cs = some y) (hy : y.1 = u.D) : cs = u.V := by
  obtain ⟨xs, k, _, ex, hlen, hxl, hf⟩ := DataW.trod_struct Tryd.underlying112 h
  obtain ⟨a, b, c, d, e, f, g, rfl⟩ := list7 (hlen.trans (by kernel_rfl))
  have get : ∀ i, i < 7 → ∃ y, xs[i]? = some y := fun i hi => ⟨xs[i]'(by rw [hxl]; exact hi), List.getElem?_eq_getElem _⟩
  obtain ⟨y0, g0⟩ := get 0 (by decide)
  obtain ⟨y1, g1⟩ := get 1 (by decide)
  obtain ⟨y2, g2⟩ := get 2 (by decide)
  obtain ⟨y3, g3⟩ := get 3 (by decide)
  obtain ⟨y4, g4⟩ := get 4 (by decide)
  obtain ⟨y5, g5⟩ := get 5 (by decide)
  obtain ⟨y6, g6⟩ := get 6 (by decide)
  rw [ex] at hy
  have hm := DataW.agg.inj hy
  have q : ∀ (i : Nat) (z : DataW Unit × List MemPlace), xs[i]? = some z → ([.lit (.string u.word.data.toList), .lit (.int .u32 u.first), .lit (.int .u32 u.other), .lit (.bool u.ticks), .lit (.string u.flag.data.toList), .lit (.bool u.fails), .lit (.int .i64 u.args)] : List (DataW Unit))[i]? = some z.1 := fun i z hz => by
    rw [← hm, List.getElem?_map, hz]
    rfl
  have q0 := q 0 _ g0
  have q1 := q 1 _ g1
  have q2 := q 2 _ g2
  have q3 := q 3 _ g3
  have q4 := q 4 _ g4
  have q5 := q 5 _ g5
  have q6 := q 6 _ g6
  have h0 := hf 0 _ rfl
  have h1 := hf 1 _ rfl
  have h2 := hf 2 _ rfl
  have h3 := hf 3 _ rfl
  have h4 := hf 4 _ rfl
  have h5 := hf 5 _ rfl
  have h6 := hf 6 _ rfl
  simp [g0, g1, g2, g3, g4, g5, g6, cT9, cT66, cT3, cT4] at h0 h1 h2 h3 h4 h5 h6
  obtain ⟨x0, e0, r0, _⟩ := DataW.trod_string Tryd.underlying9 h0
  obtain ⟨x1, e1, r1, _⟩ := DataW.trod_int Tryd.underlying66 h1
  obtain ⟨x2, e2, r2, _⟩ := DataW.trod_int Tryd.underlying66 h2
  obtain ⟨x3, e3, r3⟩ := DataW.trod_bool Tryd.underlying4 h3
  obtain ⟨x4, e4, r4, _⟩ := DataW.trod_string Tryd.underlying9 h4
  obtain ⟨x5, e5, r5⟩ := DataW.trod_bool Tryd.underlying4 h5
  obtain ⟨x6, e6, r6, _⟩ := DataW.trod_int Tryd.underlying3 h6
  rw [r0] at q0
  rw [r1] at q1
  rw [r2] at q2
  rw [r3] at q3
  rw [r4] at q4
  rw [r5] at q5
  rw [r6] at q6
  simp at e0 e1 e2 e3 e4 e5 e6 q0 q1 q2 q3 q4 q5 q6
  have q0 : x0 = u.word := bytes_ext (by simpa using q0.symm)
  have q4 : x4 = u.flag := bytes_ext (by simpa using q4.symm)
  rw [e0, e1, e2, e3, e4, e5, e6, q0, ← q1, ← q2, ← q3, q4, ← q5, ← q6]
  rfl
end
/-- A laid table of structs. -/
theorem rows_of_laid {α : Type} {W : World} {n : String} {g : Nat} {t e : TypeId} {m : Nat} {l : List α} (D : α → DataW Unit) (V : α → List Value) (hV : ∀ x, (V x).length = m) (hg : Tryd.prog.globalNamed n = some g) (hty : (Tryd.prog.globals[g]?).map (·.type) = some t)
    (hu : Tryd.prog.underlying t = some (.array l.length e)) (ce : Tryd.prog.cellsOf e = m)
    (key : ∀ (n : Nat) (cs : List Value) (y : DataW Unit × List MemPlace) (u : α), DataW.trod (fun _ => ()) Tryd.prog W 0 (fun _ => true) false n e cs = some y → y.1 = D u → cs = V u)
    (h : ∃ g t cs fuel p, Tryd.prog.globalNamed n = some g ∧ (Tryd.prog.globals[g]?).map (·.type) = some t ∧ W.var? Tryd.prog n = some cs ∧ DataW.trod (fun _ => ()) Tryd.prog W 0 (fun _ => true) false fuel t cs.toList = some ((.agg (l.map D) : DataW Unit), p)) :
    ∀ k (hk : k < l.length) j v, (V l[k])[j]? = some v → W.cell? ⟨g, k * m + j, none⟩ = some v := by
  obtain ⟨g', t', cs, fuel, p, hg', ht', hv, hd⟩ := h
  obtain rfl := Option.some.inj (hg.symm.trans hg')
  obtain rfl := Option.some.inj (hty.symm.trans ht')
  obtain ⟨xs, q, _, ex, hlen, hl, hel⟩ := DataW.trod_array hu hd
  have e3 : l.map D = xs.map (·.1) := DataW.agg.inj (Prod.mk.inj ex).1
  intro k hk j v hj
  have hk' := hel k hk
  rw [ce, List.getElem?_eq_getElem (by omega)] at hk'
  have hy : (xs[k]'(by omega)).1 = D l[k] := by
    have := congrArg (·[k]?) e3
    simp only [List.getElem?_map, List.getElem?_eq_getElem hk, List.getElem?_eq_getElem (show k < xs.length by omega)] at this
    exact (Option.some.inj this).symm
  have hc := key _ _ _ _ hk' hy
  have hjm : j < m := by have := (List.getElem?_eq_some_iff.1 hj).1; rw [hV] at this; exact this
  rw [World.var?_cell hg hv, ← hj, ← hc, List.getElem?_take, if_pos hjm, List.getElem?_drop]
  simp
def pairV (p : Int × Int) : List Value := [.int .u8 p.1, .int .u8 p.2]
def pairD (p : Int × Int) : DataW Unit := .agg [.lit (.int .u8 p.1), .lit (.int .u8 p.2)]
theorem gives_eq : (Rows.laid_layby_programs_gives : DataW Unit) = .agg (givesL.map pairD) := by rfl
theorem list2 {cs : List Value} (h : cs.length = 2) : ∃ a b, cs = [a, b] := by
  match cs, h with
  | [a, b], _ => exact ⟨a, b, rfl⟩
set_option maxRecDepth 100000 in
theorem pair_cs {W : World} {spare : Nat → Bool} {held : Bool} {n : Nat} {cs : List Value} {y : DataW Unit × List MemPlace} {u : Int × Int} (h : DataW.trod (fun _ => ()) Tryd.prog W 0 spare held n 127 cs = some y) (hy : y.1 = pairD u) : cs = pairV u := by
  obtain ⟨xs, k, _, ex, hlen, hxl, hf⟩ := DataW.trod_struct Tryd.underlying127 h
  obtain ⟨a, b, rfl⟩ := list2 (hlen.trans (by kernel_rfl))
  have get : ∀ i, i < 2 → ∃ y, xs[i]? = some y := fun i hi => ⟨xs[i]'(by rw [hxl]; exact hi), List.getElem?_eq_getElem _⟩
  obtain ⟨y0, g0⟩ := get 0 (by decide)
  obtain ⟨y1, g1⟩ := get 1 (by decide)
  rw [ex] at hy
  have hm := DataW.agg.inj hy
  have q : ∀ (i : Nat) (z : DataW Unit × List MemPlace), xs[i]? = some z → ([.lit (.int .u8 u.1), .lit (.int .u8 u.2)] : List (DataW Unit))[i]? = some z.1 := fun i z hz => by
    rw [← hm, List.getElem?_map, hz]
    rfl
  have q0 := q 0 _ g0
  have q1 := q 1 _ g1
  have h0 := hf 0 _ rfl
  have h1 := hf 1 _ rfl
  simp [g0, g1, cT48] at h0 h1
  obtain ⟨x0, e0, r0, _⟩ := DataW.trod_int Tryd.underlying48 h0
  obtain ⟨x1, e1, r1, _⟩ := DataW.trod_int Tryd.underlying48 h1
  rw [r0] at q0
  rw [r1] at q1
  simp at e0 e1 q0 q1
  rw [e0, e1, ← q0, ← q1]
  rfl
abbrev laidD : List (String × DataW Unit) := [("math/bits.deBruijn32tab", Rows.laid_math_bits_deBruijn32tab), ("math/bits.deBruijn64tab", Rows.laid_math_bits_deBruijn64tab), ("internal/strconv.uint64pow10", Rows.laid_internal_strconv_uint64pow10), ("layby/programs.uses", Rows.laid_layby_programs_uses), ("layby/programs.gives", Rows.laid_layby_programs_gives)]
theorem gives_of {W : World} (h : ∃ g t cs fuel p, Tryd.prog.globalNamed "layby/programs.gives" = some g ∧ (Tryd.prog.globals[g]?).map (·.type) = some t ∧ W.var? Tryd.prog "layby/programs.gives" = some cs ∧ DataW.trod (fun _ => ()) Tryd.prog W 0 (fun _ => true) false fuel t cs.toList = some ((Rows.laid_layby_programs_gives : DataW Unit), p)) :
    Gives W ∧ 4 < W.heap.size := by
  rw [gives_eq] at h
  have a := rows_of_laid (g := 4) (t := 128) (e := 127) (m := 2) (l := givesL) pairD pairV (fun _ => rfl) (by kernel_rfl) (by kernel_rfl) Tryd.underlying128 (by kernel_rfl) (fun _ _ _ _ h hy => pair_cs h hy) h
  have hg : Gives W := fun k hk => ⟨a k hk 0 _ rfl, a k hk 1 _ rfl⟩
  exact ⟨hg, World.block_lt_of_cell? W _ (hg 0 (by decide)).1⟩
theorem tabs_of {W : World} (h0 : ∃ g t cs fuel p, Tryd.prog.globalNamed "layby/programs.uses" = some g ∧ (Tryd.prog.globals[g]?).map (·.type) = some t ∧ W.var? Tryd.prog "layby/programs.uses" = some cs ∧ DataW.trod (fun _ => ()) Tryd.prog W 0 (fun _ => true) false fuel t cs.toList = some ((Rows.laid_layby_programs_uses : DataW Unit), p)) : Tabs W Ut := by
  rw [uses_eq] at h0
  have a0 := rows_of_laid (g := 3) (t := 113) (e := 112) (m := 7) (l := usesL) Use.D Use.V (fun _ => rfl) (by kernel_rfl) (by kernel_rfl) Tryd.underlying113 (by kernel_rfl) (fun _ _ _ _ h hy => use_cs h hy) h0
  have lU : usesL.length = 26 := rfl
  have hU : ∀ k (hk : k < 26), Ut k = usesL[k]'(by rw [lU]; exact hk) := fun k hk => by unfold Ut; rw [List.getD_eq_getElem?_getD, List.getElem?_eq_getElem (by rw [lU]; exact hk)]; rfl
  exact ⟨fun k hk j v hv => a0 k (by rw [lU]; exact hk) j v (by rw [← hU k hk]; exact hv)⟩
theorem t2_of_laid {W : World} (h : laidMetH Tryd.prog laidD W) : T2 W := by
  rw [MakeChecks.laidMetH_plain _ _ _ (by kernel_rfl)] at h
  obtain ⟨ps, hl, _, _⟩ := h
  obtain ⟨hg, h4⟩ := gives_of (laid_at laidD ps hl (by simp [laidD]))
  exact ⟨⟨tabs_of (laid_at laidD ps hl (by simp [laidD])), hg, h4⟩, pow_of_laid (laid_at laidD ps hl (by simp [laidD]; rfl))⟩
/-- The door's own heap meets the condition. -/
theorem door_metD (os : Os) (args : Array Value) : laidMetH Tryd.prog laidD ((World.doorLaid Tryd.prog 4000 os).forCall (fun _ _ => 0) ⟨#[], args, []⟩).memory :=
  laidMetH_of_parts3 (fuel := 8) (laidMet_of_run' 8 (by kernel_rfl) (by kernel_rfl)) (by kernel_rfl) (by kernel_rfl)
set_option maxRecDepth 100000 in
/-- An argument that is a byte. -/
theorem open_byte {H : Type} {enc : TypeId × Value → H} {W : World} {base : Nat} {v : Value} {d : DataW H} {p : List MemPlace} {spare : Nat → Bool} {held : Bool}
    (hv : Value.okWide Tryd.prog W .any base 5 v) (h : DataW.Trod enc Tryd.prog W 0 spare held 5 v d p) : ∃ z : Nat, v = .int .u8 (z : Int) ∧ z ≤ 255 := by
  obtain ⟨b, rfl, rfl, rfl, wb⟩ := open_int Tryd.underlying5 hv h
  have := bounds_u8 wb
  obtain ⟨n, rfl⟩ := Int.eq_ofNat_of_zero_le this.1
  exact ⟨n, rfl, by omega⟩
end Go.Proofs.YtmjpaaippilioaaDoor
