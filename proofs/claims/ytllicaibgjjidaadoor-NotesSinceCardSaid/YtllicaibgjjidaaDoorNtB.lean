import Derived.Test.YtllicaibgjjidaaDoorNtA
import Derived.Deep.DrawnRows
import Derived.Deep.CutRange
import Derived.Deep.RegionLaw
namespace Go.Proofs.YtllicaibgjjidaaDoor
open Go.RowKit

/-- A note. -/
structure Nt where
  s : Int
  t : Int
  k : Int
  a : Int
  o : Int
  p : Int
  v : Int
def Nt.P (n : Nt) : List Value := [.int .i64 n.s, .int .i64 n.t, .int .u8 n.k, .int .u32 n.a, .int .i64 n.o, .int .u32 n.p, .int .u64 n.v]
def Nt.R (n : Nt) : List Value := [.int .i64 n.s, .int .i64 n.t, .int .i64 n.k, .int .u32 n.a, .int .i64 n.o, .int .u32 n.p, .int .u64 n.v]
theorem info32 : (Tryd.prog.info? 32).map (fun i => (i.zero, i.size, i.bytes)) = some (some (.agg #[.int .i64 0, .int .i64 0, .int .u8 0, .int .u32 0, .int .i64 0, .int .u32 0, .int .u64 0]), 7, 48) := by kernel_rfl
theorem info43 : (Tryd.prog.info? 43).map (fun i => (i.zero, i.size, i.bytes)) = some (some (.agg #[.int .i64 0, .int .i64 0, .int .i64 0, .int .u32 0, .int .i64 0, .int .u32 0, .int .u64 0]), 7, 56) := by kernel_rfl
theorem flat_get {α : Type} (c : α → List Value) (m : Nat) (hc : ∀ x, (c x).length = m) : ∀ (xs : List α) (i j : Nat) (h : i < xs.length), j < m → (xs.flatMap c)[i * m + j]? = (c xs[i])[j]? := by
  intro xs
  induction xs with
  | nil => intro i j h; simp at h
  | cons x xs ih =>
    intro i j h hj
    rw [List.flatMap_cons]
    cases i with
    | zero => rw [Nat.zero_mul, Nat.zero_add, List.getElem?_append_left (by rw [hc]; exact hj)]; rfl
    | succ i =>
      rw [List.getElem?_append_right (by rw [hc, Nat.add_mul]; omega), hc, show (i + 1) * m + j - m = i * m + j from by rw [Nat.add_mul]; omega]
      exact ih i j (by simpa using h) hj
theorem flat_len {α : Type} (c : α → List Value) (m : Nat) (hc : ∀ x, (c x).length = m) : ∀ (xs : List α), (xs.flatMap c).length = xs.length * m := by
  intro xs
  induction xs with
  | nil => simp
  | cons x xs ih => rw [List.flatMap_cons, List.length_append, hc, ih, List.length_cons, Nat.add_mul]; omega
theorem lenP (n : Nt) : n.P.length = 7 := rfl
theorem lenR (n : Nt) : n.R.length = 7 := rfl

/-- A list of notes behind a pointer: its slice is the call's own, from B on. -/
structure Lst (c : Nt → List Value) (w : World) (B b : Nat) (A : Option Addr) (cap : Nat) (xs : List Nt) : Prop where
  head : w.cell? ⟨b, 0, none⟩ = some (.slice A xs.length cap)
  free : w.frozen? ⟨b, 0, none⟩ = false
  lt : b < B
  sl : Sl w B 7 A xs.length cap (xs.flatMap c)
/-- Is a note taken behind others? -/
def takes (xs : List Nt) (n : Nt) : Bool := isK n.k && (match xs.getLast? with | none => true | some l => !(decide (n.s < l.s)))
def addE (xs : List Nt) (n : Nt) : Int := if takes xs n then 0 else 1
def addL (xs : List Nt) (n : Nt) : List Nt := if takes xs n then xs ++ [n] else xs

/-- What an addition leaves. -/
def Added (c : Nt → List Value) (w w' : World) (B b : Nat) (A : Option Addr) (xs : List Nt) : Prop :=
  ∃ A' cap', Lst c w' B b A' cap' xs ∧ Frm w w' (fun k => k = b ∨ blk A k) ∧ ∀ k, blk A' k → blk A k ∨ w.heap.size ≤ k

theorem Added.same {c : Nt → List Value} {w w' : World} {B b cap : Nat} {A : Option Addr} {xs : List Nt} (h : Lst c w B b A cap xs) (hf : Frm w w' fun _ => False) : Added c w w' B b A xs := by
  have hlt := World.block_lt_of_cell? w _ h.head
  exact ⟨A, cap, ⟨hf.cell h.head id, (hf.frozen (p := ⟨b, 0, none⟩) hlt id).trans h.free, h.lt, h.sl.new_ hf⟩, hf.none_ _, fun k hk => .inl hk⟩

theorem add_refused_kind (B b cap : Nat) (A : Option Addr) (xs : List Nt) (n : Nt) (k0 : 0 ≤ n.k) (k1 : n.k ≤ 255) (w : World) (hT : Tab w) (h : Lst Nt.P w B b A cap xs) (hk : isK n.k = false) :
    Calls Tryd.prog 9 #[.pointer (some ⟨b, 0, none⟩), .agg #[.int .i64 n.s, .int .i64 n.t, .int .u8 n.k, .int .u32 n.a, .int .i64 n.o, .int .u32 n.p, .int .u64 n.v]] w fun e w' => e = .returned (.int .i64 1) ∧ Added Nt.P w w' B b A xs := by
  have e1 := nmI_empty n.k k0
  rw [hk] at e1
  have e1' : (nmI n.k).toList.isEmpty = true := e1
  have H := Lib.hid h
  have hlt := World.block_lt_of_cell? w _ h.head
  have hT2 := Lib.hid (hT.frm (S := fun _ => False) ((Frm.refl w _).alloc (.cells #[.int .i64 n.s, .int .i64 n.t, .int .u8 n.k, .int .u32 n.a, .int .i64 n.o, .int .u32 n.p, .int .u64 n.v] 32)) id)
  clear h hk e1 hT
  go_enter Tryd.func9, Tryd.ntmps9
  go_wp2_with (go_at_call 7; refine (name_any n.k k0 k1 _ hT2.out).mono ?_; rintro e w' ⟨rfl, rfl⟩)
  go_ret
  exact ⟨rfl, Added.same H.out ((Frm.refl w _).alloc _)⟩

/-- The argument's box. -/
abbrev boxP (n : Nt) : Obj := .cells #[.int .i64 n.s, .int .i64 n.t, .int .u8 n.k, .int .u32 n.a, .int .i64 n.o, .int .u32 n.p, .int .u64 n.v] 32
theorem last_cell {c : Nt → List Value} {w : World} {B b cap : Nat} {A : Option Addr} {ys : List Nt} {l : Nt} (hc : ∀ n, (c n).length = 7) (hs : ∀ n, (c n)[0]? = some (.int .i64 n.s)) (h : Lst c w B b A cap (ys ++ [l])) :
    ∃ g off, A = some ⟨g, off, none⟩ ∧ B ≤ g ∧ g < w.heap.size ∧ w.cell? ⟨g, off + ys.length * 7, none⟩ = some (.int .i64 l.s) := by
  have hl := h.sl.le
  simp at hl
  obtain ⟨g, off, rfl, hB, hlt, hcell, _⟩ := h.sl.form (by omega)
  refine ⟨g, off, rfl, hB, hlt, ?_⟩
  refine hcell (ys.length * 7) _ ?_
  have := flat_get c 7 hc (ys ++ [l]) ys.length 0 (by simp) (by decide)
  rw [Nat.add_zero] at this
  rw [this]
  simpa using hs l

theorem add_refused_step (B b cap : Nat) (A : Option Addr) (ys : List Nt) (l n : Nt) (k0 : 0 ≤ n.k) (k1 : n.k ≤ 255) (w : World) (hT : Tab w) (h : Lst Nt.P w B b A cap (ys ++ [l])) (hk : isK n.k = true) (hs : n.s < l.s) :
    Calls Tryd.prog 9 #[.pointer (some ⟨b, 0, none⟩), .agg #[.int .i64 n.s, .int .i64 n.t, .int .u8 n.k, .int .u32 n.a, .int .i64 n.o, .int .u32 n.p, .int .u64 n.v]] w fun e w' => e = .returned (.int .i64 1) ∧ Added Nt.P w w' B b A (ys ++ [l]) := by
  have e1 := nmI_empty n.k k0
  rw [hk] at e1
  have e1' : (nmI n.k).toList.isEmpty = false := e1
  have H := Lib.hid h
  have hlt := World.block_lt_of_cell? w _ h.head
  have hT2 := Lib.hid (hT.frm (S := fun _ => False) ((Frm.refl w _).alloc (boxP n)) id)
  obtain ⟨g, off, rfl, hB, hgl, hlast⟩ := last_cell lenP (fun _ => rfl) h
  have hhd : w.cell? ⟨b, 0, none⟩ = some (.slice (some ⟨g, off, none⟩) (ys.length + 1) cap) := by simpa using h.head
  have hmax : ys.length + 1 ≤ 9223372036854775807 := by have := h.sl.le; have := h.sl.max; unfold maxLen at this; simp at *; omega
  have i0 : (0 : Int) ≤ (ys.length : Int) := by omega
  have i1 : (ys.length : Int) < (ys.length : Int) + 1 := by omega
  clear h hk e1 hT
  go_enter Tryd.func9, Tryd.ntmps9
  go_wp2_with (go_at_call 7; refine (name_any n.k k0 k1 _ hT2.out).mono ?_; rintro e w' ⟨rfl, rfl⟩)
  go_quiet (fail)
  go_wp2
  go_ret
  exact ⟨rfl, Added.same H.out (((Frm.refl w _).alloc _).drewN _)⟩

theorem oneP (n : Nt) : ∀ u ∈ n.P, u.oneCell' = true := by intro u hu; simp [Nt.P] at hu; rcases hu with rfl | rfl | rfl | rfl | rfl | rfl | rfl <;> rfl
theorem oneR (n : Nt) : ∀ u ∈ n.R, u.oneCell' = true := by intro u hu; simp [Nt.R] at hu; rcases hu with rfl | rfl | rfl | rfl | rfl | rfl | rfl <;> rfl
/-- The append and the store behind it. -/
theorem added_of {c : Nt → List Value} {w w1 w2 : World} {B b cap cap' m : Nat} {A A' : Option Addr} {xs : List Nt} {n : Nt} (hm : m = xs.length + 1) (h : Lst c w B b A cap xs) (hf : Frm w w1 fun _ => False)
    (ha : Appended w1 w2 B 7 A A' m cap' (xs.flatMap c ++ c n)) : Added c w (w2.setCell ⟨b, 0, none⟩ (.slice A' m cap')) B b A (xs ++ [n]) := by
  subst hm
  obtain ⟨hs, hf2, hw⟩ := ha
  have hlt := World.block_lt_of_cell? w _ h.head
  have hnb : ¬ blk A b := fun hk => by have := (h.sl.ge hk).1; have := h.lt; omega
  have h2 := h.lt
  have hb2 : w2.cell? ⟨b, 0, none⟩ = some (.slice A xs.length cap) := hf2.cell (hf.cell h.head id) hnb
  have hnb' : ¬ blk A' b := fun hk => by have := (hs.ge hk).1; omega
  refine ⟨A', cap', ⟨?_, ?_, h.lt, ?_⟩, ?_, ?_⟩
  · rw [World.cell?_setCell_same _ _ _ hb2]; simp
  · rw [World.frozen?_setCell, hf2.frozen (p := ⟨b, 0, none⟩) (Nat.lt_of_lt_of_le hlt hf.size) hnb, hf.frozen (p := ⟨b, 0, none⟩) hlt id]; exact h.free
  · have e : (xs ++ [n]).flatMap c = xs.flatMap c ++ c n := by simp
    rw [e]
    simpa using hs.setCell (p := ⟨b, 0, none⟩) hnb' (.slice A' (xs.length + 1) cap')
  · exact (((hf.none_ _).trans hf2 fun k hk hh => .inr hh).setCell (p := ⟨b, 0, none⟩) (fun _ => .inl rfl) _)
  · intro k hk
    rcases hw k hk with h | h
    · exact .inl h
    · exact .inr (Nat.le_trans hf.size h)

theorem hap_cell {w W w2 : World} {B size b n cap' : Nat} {A A' : Option Addr} {ys : List Value} {v : Value} (hf : Frm w W fun _ => False) (hap : Appended W w2 B size A A' n cap' ys) (hc : w.cell? ⟨b, 0, none⟩ = some v) (hfr : w.frozen? ⟨b, 0, none⟩ = false) (hnb : ¬ blk A b) :
    w2.cell? ⟨b, 0, none⟩ = some v ∧ w2.frozen? ⟨b, 0, none⟩ = false := by
  have hlt := World.block_lt_of_cell? w _ hc
  exact ⟨hap.2.1.cell (hf.cell hc id) hnb, (hap.2.1.frozen (p := ⟨b, 0, none⟩) (Nat.lt_of_lt_of_le hlt hf.size) hnb).trans ((hf.frozen (p := ⟨b, 0, none⟩) hlt id).trans hfr)⟩
theorem Rd.fresh_at (w : World) (t : TypeId) (c : Array Value) {size n g : Nat} (hn : c.size = n * size) (hg : g = w.heap.size) : Rd (w.alloc (.cells c t)) (w.alloc (.cells c t)).heap.size size (some ⟨g, 0, none⟩) n c.toList := by subst hg; exact Rd.fresh w t c hn
/-- There is room for a note more. -/
structure Few (n : Nat) : Prop where
  lt : n < 1048576
theorem Few.int {n : Nat} (h : Few n) : decide ((1048576 : Int) ≤ (n : Int)) = false := by have := h.lt; simp; omega
theorem Few.succ {n : Nat} (h : Few (n + 1)) : decide ((1048576 : Int) ≤ (n : Int) + 1) = false := by have := h.lt; simp; omega
theorem Few.max {n : Nat} (h : Few n) : n ≤ 9223372036854775807 := by have := h.lt; omega
theorem Few.room {n : Nat} (h : Few n) : n + 1 ≤ maxLen ∧ (n + 1) * 48 ≤ 140737488355328 := by have := h.lt; unfold maxLen; omega

set_option maxHeartbeats 1000000 in
theorem add_taken_last (B b cap : Nat) (A : Option Addr) (ys : List Nt) (l n : Nt) (k0 : 0 ≤ n.k) (k1 : n.k ≤ 255) (w : World) (hT : Tab w) (h : Lst Nt.P w B b A cap (ys ++ [l])) (hB0 : B ≤ w.heap.size) (hk : isK n.k = true) (hs : ¬ n.s < l.s) (hlen : Few (ys.length + 1)) :
    Calls Tryd.prog 9 #[.pointer (some ⟨b, 0, none⟩), .agg #[.int .i64 n.s, .int .i64 n.t, .int .u8 n.k, .int .u32 n.a, .int .i64 n.o, .int .u32 n.p, .int .u64 n.v]] w fun e w' => e = .returned (.int .i64 0) ∧ Added Nt.P w w' B b A (ys ++ [l] ++ [n]) := by
  have e1 := nmI_empty n.k k0
  rw [hk] at e1
  have e1' : (nmI n.k).toList.isEmpty = false := e1
  have H := Lib.hid h
  have hlt := World.block_lt_of_cell? w _ h.head
  have hT2 := Lib.hid (hT.frm (S := fun _ => False) ((Frm.refl w _).alloc (boxP n)) id)
  obtain ⟨g, off, rfl, hB, hgl, hlast⟩ := last_cell lenP (fun _ => rfl) h
  have hhd : w.cell? ⟨b, 0, none⟩ = some (.slice (some ⟨g, off, none⟩) (ys.length + 1) cap) := by simpa using h.head
  have hfr := h.free
  have hmax := hlen.max
  have i0 : (0 : Int) ≤ (ys.length : Int) := by omega
  have i1 : (ys.length : Int) < (ys.length : Int) + 1 := by omega
  have bs : decide (n.s < l.s) = false := by simp; omega
  have HS := Lib.hid (show Sl w B 7 (some ⟨g, off, none⟩) (ys.length + 1) cap ((ys ++ [l]).flatMap Nt.P) by simpa using h.sl)
  obtain ⟨i32, hi, hz0, hz1, hz2⟩ := info_parts info32
  have hroom := hlen.room
  have hbB := h.lt
  have hnb : ¬ blk (some ⟨g, off, none⟩) b := fun hk => by rw [blk_some] at hk; omega
  clear h hk e1 hT hs
  go_enter Tryd.func9, Tryd.ntmps9
  go_wp2_with (go_at_call 7; refine (name_any n.k k0 k1 _ hT2.out).mono ?_; rintro e w' ⟨rfl, rfl⟩)
  go_quiet (fail)
  have b7 := hlen.succ
  go_wp2_with fail
  clear b7
  go_region_law (first | (refine step_append_sl _ rfl (.tmp 49) (.tmp 51) 36 rfl B 32 i32 _ 7 48 Tryd.underlying36 hi hz0 hz1 hz2 rfl (by decide) _ _ _ _ rfl (HS.out.new_ (by (repeat (first | exact Frm.refl _ _ | apply Frm.drew | apply Frm.drewN | apply Frm.alloc)))) _ 1 1 n.P rfl (Rd.fresh_at _ 32 #[.int .i64 n.s, .int .i64 n.t, .int .u8 n.k, .int .u32 n.a, .int .i64 n.o, .int .u32 n.p, .int .u64 n.v] rfl (by simp)) (oneP n) hroom.1 hroom.2 (by simp; omega) ?_; intro A' cap' w2 hap; obtain ⟨hb2, hf2⟩ := hap_cell (by (repeat (first | exact Frm.refl _ _ | apply Frm.drew | apply Frm.drewN | apply Frm.alloc))) hap hhd hfr hnb))
  all_goals
    go_wp2
    go_ret
    exact ⟨rfl, added_of (by simp) H.out (by (repeat (first | exact Frm.refl _ _ | apply Frm.drew | apply Frm.drewN | apply Frm.alloc))) hap⟩

set_option maxHeartbeats 1000000 in
theorem add_taken_nil (B b cap : Nat) (A : Option Addr) (n : Nt) (k0 : 0 ≤ n.k) (k1 : n.k ≤ 255) (w : World) (hT : Tab w) (h : Lst Nt.P w B b A cap []) (hB0 : B ≤ w.heap.size) (hk : isK n.k = true) :
    Calls Tryd.prog 9 #[.pointer (some ⟨b, 0, none⟩), .agg #[.int .i64 n.s, .int .i64 n.t, .int .u8 n.k, .int .u32 n.a, .int .i64 n.o, .int .u32 n.p, .int .u64 n.v]] w fun e w' => e = .returned (.int .i64 0) ∧ Added Nt.P w w' B b A ([] ++ [n]) := by
  have e1 := nmI_empty n.k k0
  rw [hk] at e1
  have e1' : (nmI n.k).toList.isEmpty = false := e1
  have H := Lib.hid h
  have hlt := World.block_lt_of_cell? w _ h.head
  have hT2 := Lib.hid (hT.frm (S := fun _ => False) ((Frm.refl w _).alloc (boxP n)) id)
  have hhd : w.cell? ⟨b, 0, none⟩ = some (.slice A 0 cap) := by simpa using h.head
  have hfr := h.free
  have HS := Lib.hid (show Sl w B 7 A 0 cap [] by simpa using h.sl)
  obtain ⟨i32, hi, hz0, hz1, hz2⟩ := info_parts info32
  have hroom : 0 + 1 ≤ maxLen ∧ (0 + 1) * 48 ≤ 140737488355328 := by unfold maxLen; omega
  have hbB := h.lt
  have hnb : ¬ blk A b := fun hk => by have := (h.sl.ge hk).1; omega
  clear h hk e1 hT
  go_enter Tryd.func9, Tryd.ntmps9
  go_wp2_with (go_at_call 7; refine (name_any n.k k0 k1 _ hT2.out).mono ?_; rintro e w' ⟨rfl, rfl⟩)
  go_quiet (fail)
  go_wp2_with fail
  go_region_law (first | (refine step_append_sl _ rfl (.tmp 49) (.tmp 51) 36 rfl B 32 i32 _ 7 48 Tryd.underlying36 hi hz0 hz1 hz2 rfl (by decide) _ _ _ _ rfl (HS.out.new_ (by (repeat (first | exact Frm.refl _ _ | apply Frm.drew | apply Frm.drewN | apply Frm.alloc)))) _ 1 1 n.P rfl (Rd.fresh_at _ 32 #[.int .i64 n.s, .int .i64 n.t, .int .u8 n.k, .int .u32 n.a, .int .i64 n.o, .int .u32 n.p, .int .u64 n.v] rfl (by simp)) (oneP n) hroom.1 hroom.2 (by simp; omega) ?_; intro A' cap' w2 hap; obtain ⟨hb2, hf2⟩ := hap_cell (by (repeat (first | exact Frm.refl _ _ | apply Frm.drew | apply Frm.drewN | apply Frm.alloc))) hap hhd hfr hnb))
  all_goals
    go_wp2
    go_ret
    exact ⟨rfl, added_of (by simp) H.out (by (repeat (first | exact Frm.refl _ _ | apply Frm.drew | apply Frm.drewN | apply Frm.alloc))) hap⟩

end Go.Proofs.YtllicaibgjjidaaDoor
