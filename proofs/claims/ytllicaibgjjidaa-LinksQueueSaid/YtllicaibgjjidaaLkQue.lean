/-
  'laybylaw05.LinksQueue': whatever bytes are handed in, the law returns true, and the slice of bytes reads behind the call as it read before. No condition.
-/
import Derived.Test.YtllicaibgjjidaaLkFst
import Derived.Test.YtllicaibgjjidaaSl
namespace Go.Proofs.Ytllicaibgjjidaa.Queue
open Go.RowKit Go.Proofs.Ytllicaibgjjidaa.G

/-- A slice of bytes that came in. -/
def Bytes (w : World) (A : Option Addr) (len : Nat) (K : Nat → Int) : Prop :=
  0 < len → ∃ b off, A = some ⟨b, off, none⟩ ∧ b < w.heap.size ∧ ∀ i, i < len → w.cell? ⟨b, off + i, none⟩ = some (.int .u8 (K i)) ∧ 0 ≤ K i ∧ K i ≤ 255
def ints (g : Nat → Int) (n : Nat) : List Value := (List.range n).map fun j => .int .i64 (g j)
theorem ints_get (g : Nat → Int) (n j : Nat) (h : j < n) : (ints g n)[j]? = some (.int .i64 (g j)) := by unfold ints; simp [h]
def isIn (g : Nat → Int) (t : Int) (n : Nat) : Bool := (List.range n).any fun j => g j == t
theorem isIn_succ (g : Nat → Int) (t : Int) (n : Nat) : isIn g t (n + 1) = (isIn g t n || (g n == t)) := by unfold isIn; rw [List.range_succ, List.any_append]; simp
theorem isIn_no {g : Nat → Int} {t : Int} {n : Nat} (h : isIn g t n = false) : ∀ i, i < n → g i ≠ t := by
  intro i hi e
  unfold isIn at h
  rw [List.any_eq_false] at h
  exact h i (List.mem_range.2 hi) (by simpa using e)

/-- What holds between two rounds. -/
def State (w : World) (n cap : Nat) (Q : Option Addr) (f g : Nat → Int) (wr : World) : Prop :=
  Sl wr (w.heap.size + 1) 1 Q n cap (ints g n) ∧ Lnk wr w.heap.size f ∧ Lk.Ok f ∧ (n = 0 ∨ ∃ j, Lk.Inv f n g j) ∧ Below w.heap.size w wr

theorem info3 : (Try.prog.info? 3).map (fun i => (i.zero, i.size, i.bytes)) = some (some (.int .i64 0), 1, 8) := by kernel_rfl
theorem ints_snoc (g : Nat → Int) (n : Nat) (t : Int) : ints g n ++ [.int .i64 t] = ints (fun i => if i = n then t else g i) (n + 1) := by
  unfold ints
  rw [List.range_succ, List.map_append]
  congr 1
  · exact List.map_congr_left fun i hi => by have := List.mem_range.1 hi; exact congrArg (Value.int .i64) (if_neg (by omega)).symm
  · simp
theorem ints_drop (g : Nat → Int) (n : Nat) : (ints g (n + 1)).drop (1 * 1) = ints (fun i => g (i + 1)) n := by
  unfold ints
  rw [List.range_succ_eq_map]
  simp [Function.comp_def]
/-- The round that pushes. -/
theorem State.push {w wr w2 w3 : World} {n cap cap' : Nat} {Q : Option Addr} {f g : Nat → Int} {t : Int} {hd : Int} {qg qo : Nat} (h : State w n cap Q f g wr) (t0 : 0 ≤ t) (t1 : t < 64)
    (hh : n = 0 → Lk.thr hd = false) (hh' : 0 < n → hd = g (n - 1)) (hno : isIn g t n = false)
    (h2 : Lnk w2 w.heap.size (Lk.push f t hd)) (g2 : wr.grownBy w2 (some w.heap.size)) (o : Obj)
    (h3 : Sl w3 (w.heap.size + 1) 1 (some ⟨qg, qo, none⟩) (n + 1) cap' (ints g n ++ [.int .i64 t])) (g3 : (w2.alloc o).grownBy w3 (some qg)) (hq : w.heap.size + 1 ≤ qg) :
    State w (n + 1) cap' (some ⟨qg, qo, none⟩) (Lk.push f t hd) (fun i => if i = n then t else g i) w3 := by
  obtain ⟨hs, hl, ok, hi, hb⟩ := h
  refine ⟨by rw [← ints_snoc]; exact h3, (h2.alloc o).grown g3 (by simp; omega), ok.push t hd, .inr ?_, ?_⟩
  · rcases hi with rfl | ⟨j, hi⟩
    · refine ⟨0, ?_⟩
      have e : (fun i => if i = 0 then t else g i) = fun i => if i = 0 then t else g i := rfl
      have F := Lk.Inv.first f t0 t1 hd (hh rfl)
      exact ⟨fun i hi => by obtain rfl : i = 0 := by omega
                            exact ⟨t0, t1⟩, fun a b ha hb _ => by omega, fun i hi => by omega, by omega, F.jtl, fun i h1 h2 => by omega, fun i hi => by omega, F.hpv⟩
    · have hn : 0 < n := by have := hi.jlt; omega
      rw [hh' hn]
      exact ⟨j, hi.push t0 t1 (isIn_no hno)⟩
  · have hb2 := below_only hb g2 (Nat.le_refl _) hb.size
    exact below_only (hb2.alloc hb2.size o) g3 (by omega) (Nat.le_trans hb2.size (by simp))

theorem field1 (a b c : Int) (w : World) : (Instr.field 60 (.agg #[.int .i64 a, .int .i64 b, .int .i64 c]) 1).run Try.prog w = .ok (.int .i64 b) w := by kernel_rfl
theorem field2 (a b c : Int) (w : World) : (Instr.field 60 (.agg #[.int .i64 a, .int .i64 b, .int .i64 c]) 2).run Try.prog w = .ok (.int .i64 c) w := by kernel_rfl
/-! ### a look, a cut -/
theorem look_seek {w wr : World} {m cap j : Nat} {Q : Option Addr} {f g : Nat → Int} (h : State w (m + 1) cap Q f g wr) (hi : Lk.Inv f (m + 1) g j) :
    Calls Try.prog 29 #[.pointer (some ⟨w.heap.size, 0, none⟩), .int .i64 (g m)] wr fun e w' => e = .returned (.int .i64 (g 0)) ∧ ∃ f1, Lnk w' w.heap.size f1 ∧ Lk.Ok f1 ∧ Lk.Inv f1 (m + 1) g m ∧ wr.grownBy w' (some w.heap.size) := by
  have C := seek_any w.heap.size f (g m) wr h.2.1 h.2.2.1
  have q := hi.seek
  rw [show m + 1 - 1 = m from rfl] at q
  rw [q.1] at C
  exact C.mono fun e w' ⟨he, hl, hg⟩ => ⟨he, _, hl, h.2.2.1.seek _, q.2, hg⟩
theorem look_at {w wr : World} {m : Nat} {f g : Nat → Int} (hl : Lnk wr w.heap.size f) (ok : Lk.Ok f) (hi : Lk.Inv f (m + 1) g m) (nxt : Int) (h0 : m = 0 → nxt = -1) (h1 : 0 < m → nxt = g 1) :
    Calls Try.prog 28 #[.pointer (some ⟨w.heap.size, 0, none⟩), .int .i64 (g 0)] wr fun e w' => (∃ x y, e = .returned (.agg #[.int .i64 x, .int .i64 nxt, .int .i64 y])) ∧ wr.grownBy w' none := by
  have hr := hi.rng 0 (by omega)
  have C := At_yes w.heap.size f (g 0) hr.1 hr.2 wr hl ok
  have e : Lk.pv f (g 0) - 1 = nxt := by
    by_cases hm : m = 0
    · subst hm
      have := hi.hpv
      rw [show 0 + 1 - 1 = 0 from rfl] at this
      rw [this, h0 rfl]; rfl
    · have e1 : Lk.pv f (g 0) = g 1 + 1 := hi.bpv 0 (by omega)
      rw [e1, h1 (by omega)]
      omega
  rw [e] at C
  exact C.mono fun e w' ⟨he, hg⟩ => ⟨⟨_, _, he⟩, hg⟩
theorem look_head {w wr : World} {m : Nat} {f g : Nat → Int} (hl : Lnk wr w.heap.size f) (ok : Lk.Ok f) (hi : Lk.Inv f (m + 1) g m) :
    Calls Try.prog 28 #[.pointer (some ⟨w.heap.size, 0, none⟩), .int .i64 (g m)] wr fun e w' => (∃ x y, e = .returned (.agg #[.int .i64 x, .int .i64 y, .int .i64 (g 0)])) ∧ wr.grownBy w' none := by
  have hr := hi.rng m (by omega)
  have C := At_yes w.heap.size f (g m) hr.1 hr.2 wr hl ok
  rw [hi.jtl, show g 0 + 1 - 1 = g 0 from by omega] at C
  exact C.mono fun e w' ⟨he, hg⟩ => ⟨⟨_, _, he⟩, hg⟩
theorem look_cut {w wr : World} {m : Nat} {f g : Nat → Int} (hl : Lnk wr w.heap.size f) (ok : Lk.Ok f) (hi : Lk.Inv f (m + 1) g m) (nxt : Int) (h0 : m = 0 → nxt = -1) (h1 : 0 < m → nxt = g 1) :
    Calls Try.prog 30 #[.pointer (some ⟨w.heap.size, 0, none⟩), .int .i64 (g m), .int .i64 (g 0)] wr fun e w' => e = .returned (.int .i64 nxt) ∧ ∃ f1, Lnk w' w.heap.size f1 ∧ Lk.Ok f1 ∧ (m = 0 ∨ ∃ j, Lk.Inv f1 m (fun i => g (i + 1)) j) ∧ wr.grownBy w' (some w.heap.size) := by
  have C := cut_any w.heap.size f (g m) (g 0) wr hl ok
  have q := Lk.Inv.cut (n := m + 1) hi
  rw [show m + 1 - 1 = m from rfl] at q
  by_cases hm : m = 0
  · subst hm
    have q1 := q.1 rfl
    rw [q1] at C
    rw [h0 rfl]
    exact C.mono fun e w' ⟨he, hl, hg⟩ => ⟨he, _, hl, ok, .inl rfl, hg⟩
  · have q1 := q.2 (by omega)
    rw [q1.1] at C
    rw [h1 (by omega)]
    exact C.mono fun e w' ⟨he, hl, hg⟩ => ⟨he, _, hl, ok.cut _ _, .inr ⟨_, q1.2⟩, hg⟩
theorem State.looked {w wr w2 : World} {n cap j : Nat} {Q : Option Addr} {f f1 g : Nat → Int} (h : State w n cap Q f g wr) (hl : Lnk w2 w.heap.size f1) (ok : Lk.Ok f1) (hi : Lk.Inv f1 n g j) (hg : wr.grownBy w2 (some w.heap.size)) : State w n cap Q f1 g w2 :=
  ⟨h.1.under hg (by omega), hl, ok, .inr ⟨j, hi⟩, below_only h.2.2.2.2 hg (Nat.le_refl _) h.2.2.2.2.size⟩
theorem State.next {w wr w2 : World} {n cap : Nat} {Q : Option Addr} {f g : Nat → Int} (h : State w n cap Q f g wr) (hg : wr.grownBy w2 none) : State w n cap Q f g w2 :=
  ⟨h.1.keep hg, h.2.1.grown hg (by simp), h.2.2.1, h.2.2.2.1, h.2.2.2.2.trans ((Ytllicaibgjjidaa.only_below hg).mono h.2.2.2.2.size)⟩
theorem State.cut {w wr w2 : World} {m cap : Nat} {Q : Option Addr} {qg qo : Nat} {f f1 g : Nat → Int} (h : State w (m + 1) cap (some ⟨qg, qo, none⟩) f g wr) (hl : Lnk w2 w.heap.size f1) (ok : Lk.Ok f1) (hi : m = 0 ∨ ∃ j, Lk.Inv f1 m (fun i => g (i + 1)) j)
    (hg : wr.grownBy w2 (some w.heap.size)) (hQ : (cap = 1 ∧ m = 0) ∨ Q = some ⟨qg, qo + 1, none⟩ ∧ 1 < cap) : State w m (cap - 1) Q f1 (fun i => g (i + 1)) w2 := by
  refine ⟨?_, hl, ok, hi, below_only h.2.2.2.2 hg (Nat.le_refl _) h.2.2.2.2.size⟩
  have hs := h.1.under hg (by omega)
  rcases hQ with ⟨rfl, rfl⟩ | ⟨rfl, hc⟩
  · exact Sl.none_of _ _ _ _
  · obtain ⟨g', o', e, hs'⟩ := hs.cut (k := 1) (by omega) hc
    injection e with e
    injection e with e1 e2
    subst e1 e2
    rw [ints_drop] at hs'
    exact hs'

set_option maxHeartbeats 4000000 in
set_option maxRecDepth 100000 in
theorem walk (A : Option Addr) (len cap : Nat) (K : Nat → Int) (w : World) (hA : Bytes w A len K) (hl : len ≤ 9223372036854775807) :
    Calls Try.prog 8 #[.slice A len cap] w fun e w' => e = .returned (.bool true) ∧ Below w.heap.size w w' := by
  by_cases h300 : 300 < len
  · go_enter Try.func8, Try.ntmps8
    go_wp2_with (go_at_call 23; refine (lives_below _ w.heap.size (by simp)).mono ?_; rintro e w' ⟨rfl, hbel⟩)
    go_ret
    exact ⟨rfl, hbel⟩
  · have hA' := Lib.hid hA
    clear hA
    go_enter Try.func8, Try.ntmps8
    go_wp2_with fail
    refine (new_any w).mono ?_; rintro e w1 ⟨rfl, hn1, g1⟩
    have hN : Hid (State w 0 0 none (fun _ => 0) (fun _ => 0) w1) := ⟨Sl.nil _ _ _, hn1, ok0, .inl rfl, only_below g1⟩
    clear hn1 g1
    go_wp2_with fail
    go_loopw [4, 5] (fun q i wr => ∃ (k n cap : Nat) (Q : Option Addr) (f g : Nat → Int), i = .int .i64 k ∧ q = .slice Q n cap ∧ k ≤ len ∧ State w n cap Q f g wr) (fun _ i _ => len - (intOf i).toNat)
    case atStart => exact ⟨0, 0, 0, none, _, _, rfl, rfl, Nat.zero_le _, hN.out⟩
    case round =>
      clear hN
      obtain ⟨k, n, qcap, Q, f, g, rfl, rfl, hk, hS⟩ := hrel
      by_cases hlt : k < len
      · obtain ⟨ab, off, rfl, hab, hcells⟩ := hA'.out (by omega)
        obtain ⟨e0, k0, k1⟩ := hcells k hlt
        have d0 : wr.cell? ⟨ab, off + k, none⟩ = some (.int .u8 (K k)) := (hS.2.2.2.2.cell (p := ⟨ab, off + k, none⟩) hab).trans e0
        have HS := Lib.hid hS
        have e0H := Lib.hid e0
        clear hcells e0 hS
        have ik : (0 : Int) ≤ (k : Int) := by omega
        have ik1 : (k : Int) < (len : Int) := by omega
        by_cases hn : n = 0
        · subst hn
          have hh : Lk.thr (-1) = false := by decide
          go_wp2_with fail
          go_loop [8, 9] (fun th x => th = .bool false ∧ x = .int .i64 0) (fun _ _ => 0)
          case atStart => exact ⟨rfl, rfl⟩
          case round =>
            obtain ⟨rfl, rfl⟩ := hrel
            by_cases hp : K k % 4 < 2
            · have b1 : decide (K k % 4 < 2) = true := by simp [hp]
              clear hp
              go_wp2_with fail
              refine (push_any w.heap.size f (K k / 4 % 64) (-1) _ HS.out.2.1).mono ?_; rintro e w2 ⟨rfl, h2, g2⟩
              have hsl := (HS.out.1.under g2 (by omega)).alloc (.cells #[.int .i64 (K k / 4 % 64)] 3)
              have H2 := Lib.hid h2
              have G2 := Lib.hid g2
              have hbs : w.heap.size + 1 ≤ w2.heap.size + 1 := by have := HS.out.2.2.2.2.size; have := g2.size; omega
              clear h2 g2
              obtain ⟨i0, hi, hz0, hz1, hz2⟩ := info_parts info3
              go_wp2_with (at_builtin; refine wpList_append_sl _ rfl (.tmp 68) (.tmp 70) 71 rfl (w.heap.size + 1) 3 i0 (.int .i64 0) 1 8 Try.underlying71 hi hz0 hz1 hz2 rfl (by decide) _ _ _ _ rfl hsl ⟨w2.heap.size, 0, none⟩ 1 1 [.int .i64 (K k / 4 % 64)] rfl rfl (cell_one_new _ _ _) (by simp [Value.oneCell']) (by decide) (by decide) (by decide) (by simpa using hbs) ?_; intro qg qo qc w3 hsl3 hg3 hge hwh hpos)
              go_roundw
              case rel => exact ⟨k + 1, 1, qc, _, _, _, by go_num, rfl, by omega, State.push (wr := wr) (n := 0) HS.out (by omega) (by omega) (fun _ => hh) (fun h => by omega) rfl H2.out G2.out _ hsl3 hg3 hge⟩
              case measure => simp [intOf]; omega
            · have b1 : decide (K k % 4 < 2) = false := by simp; omega
              clear hp
              go_wp2_with fail
              go_roundw
              case rel => exact ⟨k + 1, 0, qcap, _, _, _, by go_num, rfl, by omega, HS.out⟩
              case measure => simp [intOf]; omega
        · have hf1 := field1
          have hf2 := field2
          obtain ⟨m, rfl⟩ : ∃ m, n = m + 1 := ⟨n - 1, by omega⟩
          obtain ⟨qg, qo, rfl, hqB, hql, hqc, hqf⟩ := HS.out.1.form (by have := HS.out.1.le; omega)
          have hm : wr.cell? ⟨qg, qo + m, none⟩ = some (.int .i64 (g m)) := hqc m _ (ints_get g _ _ (by omega))
          have HC := Lib.hid (fun j (hj : j < m + 1) => hqc j _ (ints_get g (m + 1) j hj))
          obtain ⟨jj, hinv⟩ : ∃ j, Lk.Inv f (m + 1) g j := by rcases HS.out.2.2.2.1 with h | h; (omega); exact h
          have hm64 := hinv.le64
          have gm := hinv.rng m (by omega)
          have HI := Lib.hid hinv
          clear hqc hqf hn hinv
          go_wp2_with fail
          go_loop [8, 9] (fun th x => ∃ mm : Nat, x = .int .i64 mm ∧ mm ≤ m + 1 ∧ th = .bool (isIn g (K k / 4 % 64) mm)) (fun _ x => m + 1 - (intOf x).toNat)
          case atStart => exact ⟨0, rfl, Nat.zero_le _, rfl⟩
          case round =>
            obtain ⟨mm, rfl, hmm, rfl⟩ := hrel
            by_cases hmlt : mm < m + 1
            · have cq := HC.out mm hmlt
              have es : Hid (isIn g (K k / 4 % 64) (mm + 1) = (isIn g (K k / 4 % 64) mm || (g mm == K k / 4 % 64))) := isIn_succ _ _ _
              have im : (0 : Int) ≤ (mm : Int) := by omega
              have im1 : (mm : Int) < (m : Int) + 1 := by omega
              cases hb : isIn g (K k / 4 % 64) mm with
              | true =>
                rw [hb] at es
                have HBB := Lib.hid hb
                clear hb
                go_wp2_with fail
                go_round
                case rel => exact ⟨mm + 1, by go_num, by omega, by rw [es.out]; rfl⟩
                case measure => simp [intOf]; omega
              | false =>
                rw [hb] at es
                have HBB := Lib.hid hb
                clear hb
                go_wp2_with fail
                go_round
                case rel => exact ⟨mm + 1, by go_num, by omega, by rw [es.out]; rfl⟩
                case measure => simp [intOf]; omega
            · obtain rfl : mm = m + 1 := by omega
              by_cases hp : K k % 4 < 2 ∧ isIn g (K k / 4 % 64) (m + 1) = false
              · obtain ⟨hp, hno⟩ := hp
                have b1 : decide (K k % 4 < 2) = true := by simp [hp]
                have HNO := Lib.hid hno
                rw [hno]
                clear hp hno
                go_wp2_with fail
                refine (push_any w.heap.size f (K k / 4 % 64) (g m) _ HS.out.2.1).mono ?_; rintro e w2 ⟨rfl, h2, g2⟩
                have hsl := (HS.out.1.under g2 (by omega)).alloc (.cells #[.int .i64 (K k / 4 % 64)] 3)
                have H2 := Lib.hid h2
                have G2 := Lib.hid g2
                have hbs : w.heap.size + 1 ≤ w2.heap.size + 1 := by have := HS.out.2.2.2.2.size; have := g2.size; omega
                clear h2 g2
                obtain ⟨i0, hi, hz0, hz1, hz2⟩ := info_parts info3
                go_wp2_with (at_builtin; refine wpList_append_sl _ rfl (.tmp 68) (.tmp 70) 71 rfl (w.heap.size + 1) 3 i0 (.int .i64 0) 1 8 Try.underlying71 hi hz0 hz1 hz2 rfl (by decide) _ _ _ _ rfl hsl ⟨w2.heap.size, 0, none⟩ 1 1 [.int .i64 (K k / 4 % 64)] rfl rfl (cell_one_new _ _ _) (by simp [Value.oneCell']) (by decide) (by unfold maxLen; omega) (by omega) (by simpa using hbs) ?_; intro qg2 qo2 qc2 w3 hsl3 hg3 hge hwh hpos)
                go_roundw
                case rel => exact ⟨k + 1, m + 1 + 1, qc2, _, _, _, by go_num, rfl, by omega, State.push (wr := wr) (n := m + 1) HS.out (by omega) (by omega) (fun h => by omega) (fun _ => rfl) HNO.out H2.out G2.out _ hsl3 hg3 hge⟩
                case measure => simp [intOf]; omega
              · by_cases h2 : K k % 4 < 2
                · have hx : isIn g (K k / 4 % 64) (m + 1) = true := by by_cases hy : isIn g (K k / 4 % 64) (m + 1) = true; exact hy; exact absurd ⟨h2, by simpa using hy⟩ hp
                  have b1 : decide (K k % 4 < 2) = true := by simp [h2]
                  have b2 : (K k % 4 == 3) = false := by simp; omega
                  rw [hx]
                  clear hp h2 hx
                  by_cases hz : m = 0
                  · subst hz
                    go_wp2_with fail
                    refine (look_seek HS.out HI.out).mono ?_; rintro e w2 ⟨rfl, f1, hl1, ok1, hi1, g1⟩
                    have S1 := Lib.hid (HS.out.looked hl1 ok1 hi1 g1)
                    have HI1 := Lib.hid hi1
                    have q0 : w2.cell? ⟨qg, qo, none⟩ = some (.int .i64 (g 0)) := grown_cell (a := ⟨qg, qo, none⟩) g1 (HC.out 0 (by omega)) (by simp; omega)
                    have qm := grown_cell g1 hm (by simp; omega)
                    clear hi1 g1 hl1 hm
                    go_wp2_with fail
                    refine (look_at S1.out.2.1 ok1 HI1.out (-1) (fun _ => rfl) (fun h => by omega)).mono ?_; rintro e w3 ⟨⟨x3, y3, rfl⟩, g3⟩
                    have S3 := Lib.hid (S1.out.next g3)
                    clear g3
                    go_wp2_with fail
                    refine (look_head S3.out.2.1 ok1 HI1.out).mono ?_; rintro e w4 ⟨⟨x4, y4, rfl⟩, g4⟩
                    have S4 := Lib.hid (S3.out.next g4)
                    have d4 : w4.cell? ⟨ab, off + k, none⟩ = some (.int .u8 (K k)) := (S4.out.2.2.2.2.cell (p := ⟨ab, off + k, none⟩) hab).trans e0H.out
                    clear g4 q0 qm
                    go_wp2_with fail
                    go_roundw
                    case rel => exact ⟨k + 1, 0 + 1, qcap, _, _, _, by go_num, rfl, by omega, S4.out⟩
                    case measure => simp [intOf]; omega
                  · have iz : (0 : Int) < (m : Int) := by omega
                    go_wp2_with fail
                    refine (look_seek HS.out HI.out).mono ?_; rintro e w2 ⟨rfl, f1, hl1, ok1, hi1, g1⟩
                    have S1 := Lib.hid (HS.out.looked hl1 ok1 hi1 g1)
                    have HI1 := Lib.hid hi1
                    have q0 : w2.cell? ⟨qg, qo, none⟩ = some (.int .i64 (g 0)) := grown_cell (a := ⟨qg, qo, none⟩) g1 (HC.out 0 (by omega)) (by simp; omega)
                    have q1 := grown_cell g1 (HC.out 1 (by omega)) (by simp; omega)
                    have qm := grown_cell g1 hm (by simp; omega)
                    clear hi1 g1 hl1 hm
                    go_wp2_with fail
                    refine (look_at S1.out.2.1 ok1 HI1.out (g 1) (fun h => by omega) (fun _ => rfl)).mono ?_; rintro e w3 ⟨⟨x3, y3, rfl⟩, g3⟩
                    have S3 := Lib.hid (S1.out.next g3)
                    clear g3
                    go_wp2_with fail
                    refine (look_head S3.out.2.1 ok1 HI1.out).mono ?_; rintro e w4 ⟨⟨x4, y4, rfl⟩, g4⟩
                    have S4 := Lib.hid (S3.out.next g4)
                    have d4 : w4.cell? ⟨ab, off + k, none⟩ = some (.int .u8 (K k)) := (S4.out.2.2.2.2.cell (p := ⟨ab, off + k, none⟩) hab).trans e0H.out
                    clear g4 q0 qm q1
                    go_wp2_with fail
                    go_roundw
                    case rel => exact ⟨k + 1, m + 1, qcap, _, _, _, by go_num, rfl, by omega, S4.out⟩
                    case measure => simp [intOf]; omega
                · have b1 : decide (K k % 4 < 2) = false := by simp; omega
                  clear hp
                  by_cases h3 : K k % 4 = 3
                  · have b2 : (K k % 4 == 3) = true := by simp [h3]
                    clear h2 h3
                    by_cases hz : m = 0
                    · subst hz
                      go_wp2_with fail
                      refine (look_seek HS.out HI.out).mono ?_; rintro e w2 ⟨rfl, f1, hl1, ok1, hi1, g1⟩
                      have S1 := Lib.hid (HS.out.looked hl1 ok1 hi1 g1)
                      have HI1 := Lib.hid hi1
                      have q0 : w2.cell? ⟨qg, qo, none⟩ = some (.int .i64 (g 0)) := grown_cell (a := ⟨qg, qo, none⟩) g1 (HC.out 0 (by omega)) (by simp; omega)
                      have qm := grown_cell g1 hm (by simp; omega)
                      clear hi1 g1 hl1 hm
                      go_wp2_with fail
                      refine (look_at S1.out.2.1 ok1 HI1.out (-1) (fun _ => rfl) (fun h => by omega)).mono ?_; rintro e w3 ⟨⟨x3, y3, rfl⟩, g3⟩
                      have S3 := Lib.hid (S1.out.next g3)
                      clear g3
                      go_wp2_with fail
                      refine (look_head S3.out.2.1 ok1 HI1.out).mono ?_; rintro e w4 ⟨⟨x4, y4, rfl⟩, g4⟩
                      have S4 := Lib.hid (S3.out.next g4)
                      have d4 : w4.cell? ⟨ab, off + k, none⟩ = some (.int .u8 (K k)) := (S4.out.2.2.2.2.cell (p := ⟨ab, off + k, none⟩) hab).trans e0H.out
                      clear g4 q0 qm
                      go_wp2_with fail
                      refine (look_cut S4.out.2.1 ok1 HI1.out (-1) (fun _ => rfl) (fun h => by omega)).mono ?_; rintro e w5 ⟨rfl, f5, hl5, ok5, hi5, g5⟩
                      have HI5 := Lib.hid hi5
                      have G5 := Lib.hid g5
                      have hcap := HS.out.1.le
                      clear hi5 g5
                      by_cases hc1 : qcap = 1
                      · subst hc1
                        go_wp2_with fail
                        go_roundw
                        case rel => exact ⟨k + 1, 0, _, _, _, _, by go_num, rfl, by omega, S4.out.cut hl5 ok5 (.inl rfl) G5.out (.inl ⟨rfl, rfl⟩)⟩
                        case measure => simp [intOf]; omega
                      · have hc2 : (1 : Int) < (qcap : Int) := by omega
                        go_wp2_with fail
                        go_roundw
                        case rel => exact ⟨k + 1, 0, _, _, _, _, by go_num, rfl, by omega, S4.out.cut hl5 ok5 (.inl rfl) G5.out (.inr ⟨rfl, by omega⟩)⟩
                        case measure => simp [intOf]; omega
                    · have iz : (0 : Int) < (m : Int) := by omega
                      go_wp2_with fail
                      refine (look_seek HS.out HI.out).mono ?_; rintro e w2 ⟨rfl, f1, hl1, ok1, hi1, g1⟩
                      have S1 := Lib.hid (HS.out.looked hl1 ok1 hi1 g1)
                      have HI1 := Lib.hid hi1
                      have q0 : w2.cell? ⟨qg, qo, none⟩ = some (.int .i64 (g 0)) := grown_cell (a := ⟨qg, qo, none⟩) g1 (HC.out 0 (by omega)) (by simp; omega)
                      have q1 := grown_cell g1 (HC.out 1 (by omega)) (by simp; omega)
                      have qm := grown_cell g1 hm (by simp; omega)
                      clear hi1 g1 hl1 hm
                      go_wp2_with fail
                      refine (look_at S1.out.2.1 ok1 HI1.out (g 1) (fun h => by omega) (fun _ => rfl)).mono ?_; rintro e w3 ⟨⟨x3, y3, rfl⟩, g3⟩
                      have S3 := Lib.hid (S1.out.next g3)
                      clear g3
                      go_wp2_with fail
                      refine (look_head S3.out.2.1 ok1 HI1.out).mono ?_; rintro e w4 ⟨⟨x4, y4, rfl⟩, g4⟩
                      have S4 := Lib.hid (S3.out.next g4)
                      have d4 : w4.cell? ⟨ab, off + k, none⟩ = some (.int .u8 (K k)) := (S4.out.2.2.2.2.cell (p := ⟨ab, off + k, none⟩) hab).trans e0H.out
                      clear g4 q0 qm q1
                      go_wp2_with fail
                      refine (look_cut S4.out.2.1 ok1 HI1.out (g 1) (fun h => by omega) (fun _ => rfl)).mono ?_; rintro e w5 ⟨rfl, f5, hl5, ok5, hi5, g5⟩
                      have HI5 := Lib.hid hi5
                      have G5 := Lib.hid g5
                      have hcap := HS.out.1.le
                      clear hi5 g5
                      have hc1 : ¬ qcap = 1 := by omega
                      have hc2 : (1 : Int) < (qcap : Int) := by omega
                      go_wp2_with fail
                      go_roundw
                      case rel => exact ⟨k + 1, m, _, _, _, _, by go_num, rfl, by omega, S4.out.cut hl5 ok5 HI5.out G5.out (.inr ⟨rfl, by omega⟩)⟩
                      case measure => simp [intOf]; omega
                  · have b2 : (K k % 4 == 3) = false := by simp [h3]
                    clear h2 h3
                    by_cases hz : m = 0
                    · subst hz
                      go_wp2_with fail
                      refine (look_seek HS.out HI.out).mono ?_; rintro e w2 ⟨rfl, f1, hl1, ok1, hi1, g1⟩
                      have S1 := Lib.hid (HS.out.looked hl1 ok1 hi1 g1)
                      have HI1 := Lib.hid hi1
                      have q0 : w2.cell? ⟨qg, qo, none⟩ = some (.int .i64 (g 0)) := grown_cell (a := ⟨qg, qo, none⟩) g1 (HC.out 0 (by omega)) (by simp; omega)
                      have qm := grown_cell g1 hm (by simp; omega)
                      clear hi1 g1 hl1 hm
                      go_wp2_with fail
                      refine (look_at S1.out.2.1 ok1 HI1.out (-1) (fun _ => rfl) (fun h => by omega)).mono ?_; rintro e w3 ⟨⟨x3, y3, rfl⟩, g3⟩
                      have S3 := Lib.hid (S1.out.next g3)
                      clear g3
                      go_wp2_with fail
                      refine (look_head S3.out.2.1 ok1 HI1.out).mono ?_; rintro e w4 ⟨⟨x4, y4, rfl⟩, g4⟩
                      have S4 := Lib.hid (S3.out.next g4)
                      have d4 : w4.cell? ⟨ab, off + k, none⟩ = some (.int .u8 (K k)) := (S4.out.2.2.2.2.cell (p := ⟨ab, off + k, none⟩) hab).trans e0H.out
                      clear g4 q0 qm
                      go_wp2_with fail
                      go_roundw
                      case rel => exact ⟨k + 1, 0 + 1, qcap, _, _, _, by go_num, rfl, by omega, S4.out⟩
                      case measure => simp [intOf]; omega
                    · have iz : (0 : Int) < (m : Int) := by omega
                      go_wp2_with fail
                      refine (look_seek HS.out HI.out).mono ?_; rintro e w2 ⟨rfl, f1, hl1, ok1, hi1, g1⟩
                      have S1 := Lib.hid (HS.out.looked hl1 ok1 hi1 g1)
                      have HI1 := Lib.hid hi1
                      have q0 : w2.cell? ⟨qg, qo, none⟩ = some (.int .i64 (g 0)) := grown_cell (a := ⟨qg, qo, none⟩) g1 (HC.out 0 (by omega)) (by simp; omega)
                      have q1 := grown_cell g1 (HC.out 1 (by omega)) (by simp; omega)
                      have qm := grown_cell g1 hm (by simp; omega)
                      clear hi1 g1 hl1 hm
                      go_wp2_with fail
                      refine (look_at S1.out.2.1 ok1 HI1.out (g 1) (fun h => by omega) (fun _ => rfl)).mono ?_; rintro e w3 ⟨⟨x3, y3, rfl⟩, g3⟩
                      have S3 := Lib.hid (S1.out.next g3)
                      clear g3
                      go_wp2_with fail
                      refine (look_head S3.out.2.1 ok1 HI1.out).mono ?_; rintro e w4 ⟨⟨x4, y4, rfl⟩, g4⟩
                      have S4 := Lib.hid (S3.out.next g4)
                      have d4 : w4.cell? ⟨ab, off + k, none⟩ = some (.int .u8 (K k)) := (S4.out.2.2.2.2.cell (p := ⟨ab, off + k, none⟩) hab).trans e0H.out
                      clear g4 q0 qm q1
                      go_wp2_with fail
                      go_roundw
                      case rel => exact ⟨k + 1, m + 1, qcap, _, _, _, by go_num, rfl, by omega, S4.out⟩
                      case measure => simp [intOf]; omega
      · have HS := Lib.hid hS
        have hbs := hS.2.2.2.2.size
        clear hS
        go_wp2_with (go_at_call 23; refine (lives_below _ w.heap.size hbs).mono ?_; rintro e w' ⟨rfl, hbel3⟩)
        go_ret
        exact ⟨rfl, HS.out.2.2.2.2.trans hbel3⟩

open Go.ChangeShapes Go.WideShapes Go.ChangeAt
theorem open_bytes {H : Type} {enc : TypeId × Value → H} {W : World} {base : Nat} {v : Value} {d : DataW H} {p : List MemPlace} {spare : Nat → Bool} {held : Bool}
    (hv : Value.okWide Try.prog W .any base 70 v) (h : DataW.Trod enc Try.prog W 0 spare held 70 v d p) :
    ∃ A len cap K, v = .slice A len cap ∧ len ≤ 9223372036854775807 ∧ Bytes W A len K := by
  obtain ⟨a0, len0, cap0, rfl⟩ := okWide_slice Try.underlying70 hv
  obtain ⟨fuel, hf⟩ := h
  rcases open_ints Try.underlying70 Try.underlying5 (by kernel_rfl) hf with ⟨hcs, _⟩ | ⟨a, len, cap, zs, hcs, _, hl, hm, hz, _, hcell, hwz⟩
  · simp [Value.cells] at hcs
    obtain ⟨rfl, rfl, rfl⟩ := hcs
    exact ⟨none, 0, 0, fun _ => 0, rfl, by omega, fun h => by omega⟩
  · simp [Value.cells] at hcs
    obtain ⟨rfl, rfl, rfl⟩ := hcs
    have hlen : len0 ≤ zs.length := by rw [hz]; split <;> omega
    refine ⟨some a, len0, cap0, fun i => zs.getD i 0, rfl, by unfold maxLen at hm; omega, fun hpos => ?_⟩
    have c0 := hcell 0 (by omega)
    have ha : a = ⟨a.block, a.off, none⟩ := by have := add_cell c0; simp only [Addr.add_zero', Nat.add_zero] at this; exact this
    have hab : a.block < W.heap.size := by have := World.block_lt_of_cell? W _ c0; rw [add_cell c0] at this; exact this
    refine ⟨a.block, a.off, congrArg some ha, hab, fun i hi => ?_⟩
    have ci := hcell i (by omega)
    have e := add_cell ci
    rw [e] at ci
    have hb := range_u8 hwz i
    rw [← List.getD_eq_getElem?_getD] at hb
    exact ⟨ci, hb.1, hb.2⟩

set_option maxRecDepth 100000 in
theorem lifted (os : Os) (started : os.Started) (H : Type) (enc : TypeId × Value → H) :
    ReturnsInHanded {} Try.checked os 8 .any (Rows.linksQueueSpec.pre6 enc Try.prog Try.f8 Rows.linksQueueRow.domain false) (Rows.linksQueueSpec.post enc Try.prog Try.f8 false true false false) := by
  refine returnsInHanded_of_change (C := Try.checked) own started (by kernel_rfl) Try.func8
    (ChangeSpec.witness6 (enc := enc) (C := Try.checked) false ⟨#[], #[.slice none 0 0], []⟩ 8 (by kernel_rfl) (by kernel_rfl) (by kernel_rfl) (by kernel_rfl)) ?_
  intro W base args ds gs before hval0 hW hcnd _
  have hval : ∀ (j : Nat) t v, Try.f8.params[j]? = some t → args[j]? = some v → Value.okWide Try.prog W .any base t v := hval0
  have hW' := hW
  obtain ⟨p, q, hA0, hV, rfl, hfz, hnd⟩ := hW
  have hA : DataW.TrodAll enc Try.prog W 0 (fun _ => true) true Try.f8.params.toList args.toList ds p := hA0
  rw [Try.params8] at hA hval
  obtain ⟨v0, d0, rfl, rfl, h0⟩ := trodAll_one hA
  obtain ⟨rfl, rfl⟩ := trodVars_none hV
  have k0 := h0
  have lt0 : ∀ x ∈ p, x.block < W.heap.size := by obtain ⟨m, hm⟩ := k0; exact DataW.trod_lt m _ _ _ hm
  obtain ⟨A, len, cap, K, rfl, hl, hb⟩ := open_bytes (hval 0 70 v0 rfl rfl) h0
  clear hA0 hval0
  refine (walk A len cap K W hb hl).mono fun e W' ⟨he, bel⟩ => ?_
  subst he
  exact ⟨_, rfl, _, _, _, [], _, [], hW', trodAll_mk1 (shut_bool Try.underlying4 _), trodAll_mk1 (Below.trod laidOut (by kernel_rfl) (of_decide_eq_true (by kernel_rfl)) k0 bel lt0), rfl, bel.frame _, fun h => by cases h⟩

theorem holds : Rows.LinksQueueSaid :=
  OpenClaim.holds_of_wide 8 Try.f8 rfl rfl rfl rfl rfl rfl rfl ⟨rfl, rfl, rfl, rfl, rfl⟩ rfl rfl rfl rfl rfl (by kernel_rfl) Try.func8 (by kernel_rfl)
    (of_decide_eq_true (by kernel_rfl)) (by unfold Func.isWrapper; first | (rw [if_pos (by decide +kernel)]; kernel_rfl) | (rw [if_neg (by decide +kernel)]; exact ⟨rfl, rfl⟩))
    (fun os started H enc _ => lifted os started H enc)
#print axioms holds
end Go.Proofs.Ytllicaibgjjidaa.Queue
