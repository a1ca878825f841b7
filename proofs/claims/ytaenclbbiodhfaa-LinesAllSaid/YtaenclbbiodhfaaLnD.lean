import Derived.Test.YtaenclbbiodhfaaLnC
namespace Go.Proofs.Ytaenclbbiodhfaa
open Go.RowKit

theorem method_row (a : Addr) (w : World) : (method 260 27 (.pointer (some a)) "Choose").run Try.prog w = .ok (101, .pointer (some a)) w := by kernel_rfl
/-- A round of choosing: does it go on, who has been asked. -/
def chStep (ch : List Nat) (key : Int) (s : Bool × List Int) (x : En) : Bool × List Int :=
  if x.k = key ∧ s.1 = true then (decide (chV ch s.2.length = 0) || decide (chV ch s.2.length = 1), s.2 ++ [x.tok]) else s
def chRun (ch : List Nat) (key : Int) (l : List En) : Bool × List Int := l.foldl (chStep ch key) (true, [])
/-- Is the i-th one taken? -/
def chSo (ch : List Nat) (key : Int) (xs : List En) (i : Nat) : Bool :=
  match xs[i]? with
  | some x => decide (x.k = key) && (chRun ch key (xs.take i)).1 && decide (chV ch (chRun ch key (xs.take i)).2.length = 0)
  | none => false
theorem chRun_succ (ch : List Nat) (key : Int) (xs : List En) (i : Nat) (hi : i < xs.length) : chRun ch key (xs.take (i + 1)) = chStep ch key (chRun ch key (xs.take i)) xs[i] := by
  unfold chRun
  rw [List.take_succ_eq_append_getElem hi, List.foldl_append]; rfl
theorem chRun_len (ch : List Nat) (key : Int) (l : List En) : (chRun ch key l).2.length ≤ l.length := by
  unfold chRun
  suffices h : ∀ s : Bool × List Int, (l.foldl (chStep ch key) s).2.length ≤ s.2.length + l.length by simpa using h (true, [])
  induction l with
  | nil => intro s; simp
  | cons x l ih =>
    intro s
    rw [List.foldl_cons]
    refine Nat.le_trans (ih _) ?_
    unfold chStep
    split <;> simp <;> omega
theorem chSo_at (ch : List Nat) (key : Int) (xs : List En) (i : Nat) (hi : i < xs.length) : chSo ch key xs i = (decide (xs[i].k = key) && (chRun ch key (xs.take i)).1 && decide (chV ch (chRun ch key (xs.take i)).2.length = 0)) := by
  unfold chSo; rw [List.getElem?_eq_getElem hi]
theorem chV_lt (ch : List Nat) (n : Nat) : chV ch n < 4 := by unfold chV; split <;> omega
/-- What a choosing closure has. -/
structure ChS where
  on : Bool
  A : Option Addr
  cap : Nat
  asked : List Int
/-- Where a choosing closure lies. -/
structure ChP where
  B : Nat
  bk : Nat
  bo : Nat
  bf : Nat
  br : Nat
  X : Option Addr
  m : Nat
  cx : Nat
  key : Int
  ch : List Nat
structure ChP.Ok (p : ChP) : Prop where
  bk : p.bk < p.B
  bo : p.bo < p.B
  bf : p.bf < p.B
  br : p.br < p.B
  X : ∀ j, blk p.X j → j < p.B ∧ ¬ j = p.br ∧ ¬ j = p.bo
  ko : ¬ p.bk = p.bo
  kr : ¬ p.bk = p.br
  fo : ¬ p.bf = p.bo
  fr : ¬ p.bf = p.br
  or : ¬ p.bo = p.br
  u : ∀ c ∈ p.ch, c ≤ 255
def ChP.own (p : ChP) (s : ChS) (k : Nat) : Prop := k = p.bo ∨ k = p.br ∨ blk s.A k
structure ChI (p : ChP) (xs : List En) (i : Nat) (s : ChS) (w : World) : Prop where
  on : s.on = (chRun p.ch p.key (xs.take i)).1
  ask : s.asked = (chRun p.ch p.key (xs.take i)).2
  k0 : w.cell? ⟨p.bk, 0, none⟩ = some (.int .u32 p.key)
  o0 : w.cell? ⟨p.bo, 0, none⟩ = some (.bool s.on)
  fo : w.frozen? ⟨p.bo, 0, none⟩ = false
  f0 : w.cell? ⟨p.bf, 0, none⟩ = some (.iface 27 (.pointer (some ⟨p.br, 0, none⟩)))
  row : RowM w p.B p.br p.X p.m p.cx s.A s.cap s.asked
  ch : Rd w w.heap.size 1 p.X p.m (bz p.ch)
  size : p.B ≤ w.heap.size
theorem ChI.far {p : ChP} {xs : List En} {i : Nat} {s : ChS} {w : World} (h : ChI p xs i s w) : ∀ j, blk s.A j → p.B ≤ j := fun _ hj => (h.row.sl.ge hj).1
theorem ChI.frm {p : ChP} (ok : p.Ok) {xs : List En} {i : Nat} {s : ChS} {w w' : World} {S : Nat → Prop} (h : ChI p xs i s w) (hf : Frm w w' S) (ho : ∀ k, p.own s k → ¬ S k) (hB : ∀ k, S k → p.B ≤ k) : ChI p xs i s w' := by
  have lo : ∀ k, k < p.B → ¬ S k := fun k hk hs => by have := hB k hs; omega
  exact ⟨h.on, h.ask, hf.cell h.k0 (lo _ ok.bk), hf.cell h.o0 (lo _ ok.bo), (hf.frozen (p := ⟨p.bo, 0, none⟩) (World.block_lt_of_cell? w _ h.o0) (lo _ ok.bo)).trans h.fo, hf.cell h.f0 (lo _ ok.bf), h.row.frm hf (lo _ ok.br) (fun k hk => ho k (.inr (.inr hk))), h.ch.frm hf (fun j hj => lo j (ok.X j hj).1), Nat.le_trans h.size hf.size⟩
/-- The next state, where nobody was asked. -/
theorem ChI.skip {p : ChP} {xs : List En} {i : Nat} {s : ChS} {w w' : World} (h : ChI p xs i s w) (hi : i < xs.length) (hn : ¬ (xs[i].k = p.key ∧ s.on = true)) (ok : p.Ok) (hf : Frm w w' fun _ => False) : ChI p xs (i + 1) s w' := by
  have h' := h.frm ok hf (fun _ _ => id) (fun _ h => h.elim)
  have e : chRun p.ch p.key (xs.take (i + 1)) = chRun p.ch p.key (xs.take i) := by
    rw [chRun_succ _ _ _ _ hi]
    unfold chStep
    rw [if_neg (by rw [← h.on]; exact hn)]
  exact ⟨by rw [e]; exact h.on, by rw [e]; exact h.ask, h'.k0, h'.o0, h'.fo, h'.f0, h'.row, h'.ch, h'.size⟩
theorem ChI.take {p : ChP} {xs : List En} {i : Nat} {s : ChS} {w w1 w2 : World} (h : ChI p xs i s w) (hi : i < xs.length) (hk : xs[i].k = p.key) (hon : s.on = true) (ok : p.Ok) (hf : Frm w w1 fun _ => False) (ha : RowAsked w1 w2 p.B p.br p.X p.m p.cx s.A (s.asked ++ [xs[i].tok])) (b : Bool) (hb : b = (decide (chV p.ch s.asked.length = 0) || decide (chV p.ch s.asked.length = 1))) :
    ∃ s', ChI p xs (i + 1) s' (w2.setCell ⟨p.bo, 0, none⟩ (.bool b)) ∧ Frm w (w2.setCell ⟨p.bo, 0, none⟩ (.bool b)) (p.own s) ∧ ∀ k, p.own s' k → p.own s k ∨ w.heap.size ≤ k := by
  obtain ⟨A', cap', hr, hf2, hw⟩ := ha
  have h1 := h.frm ok hf (fun _ _ => id) (fun _ h => h.elim)
  have e : chRun p.ch p.key (xs.take (i + 1)) = (b, s.asked ++ [xs[i].tok]) := by
    rw [chRun_succ _ _ _ _ hi]
    unfold chStep
    rw [if_pos ⟨hk, by rw [← h.on]; exact hon⟩, ← h.ask, hb]
  have hA : ∀ j, blk s.A j → p.B ≤ j := h.far
  have lo : ∀ k, k < p.B → ¬ k = p.br → ¬ (k = p.br ∨ blk s.A k) := fun k hk hn hs => hs.elim hn (fun hs => by have := hA k hs; omega)
  have ofar : ∀ k j v u, ¬ k = p.bo → w2.cell? ⟨k, j, none⟩ = some v → (w2.setCell ⟨p.bo, 0, none⟩ u).cell? ⟨k, j, none⟩ = some v := fun k j v u hk hv => by rw [World.cell?_setCell_other _ _ _ _ (by intro e; injection e with e; exact hk e.symm)]; exact hv
  have k2 := hf2.cell h1.k0 (lo _ ok.bk ok.kr)
  have f2 := hf2.cell h1.f0 (lo _ ok.bf ok.fr)
  have o2 := hf2.cell h1.o0 (lo _ ok.bo ok.or)
  have hset : Frm w2 (w2.setCell ⟨p.bo, 0, none⟩ (.bool b)) (fun k => k = p.bo) := (Frm.refl w2 (fun k => k = p.bo)).setCell (p := ⟨p.bo, 0, none⟩) (fun _ => rfl) _
  have nA : ∀ j, blk A' j → ¬ j = p.bo := fun j hj e => by
    have := (hr.sl.ge hj).1
    have := ok.bo
    omega
  refine ⟨⟨b, A', cap', s.asked ++ [xs[i].tok]⟩, ⟨by rw [e], by rw [e], ofar _ _ _ _ ok.ko k2, World.cell?_setCell_same _ _ _ o2, ?_, ofar _ _ _ _ ok.fo f2, hr.frm hset (fun e => ok.or e.symm) nA, ?_, ?_⟩, ?_, ?_⟩
  · rw [World.frozen?_setCell, hf2.frozen (p := ⟨p.bo, 0, none⟩) (World.block_lt_of_cell? w1 _ h1.o0) (lo _ ok.bo ok.or)]; exact h1.fo
  · exact (h1.ch.frm hf2 (fun j hj => lo j (ok.X j hj).1 (ok.X j hj).2.1)).frm hset (fun j hj => (ok.X j hj).2.2)
  · exact Nat.le_trans h1.size (Nat.le_trans hf2.size hset.size)
  · refine ((hf.none_ (p.own s)).trans hf2 (fun k _ hk => ?_)).trans hset (fun k _ hk => .inl hk)
    exact hk.elim (fun h => .inr (.inl h)) (fun h => .inr (.inr h))
  · intro k hk
    rcases hk with hk | hk | hk
    · exact .inl (.inl hk)
    · exact .inl (.inr (.inl hk))
    · rcases hw k hk with h | h
      · exact .inl (.inr (.inr h))
      · exact .inr (Nat.le_trans hf.size h)
set_option maxRecDepth 100000 in
set_option maxHeartbeats 1000000 in
theorem clos59_skip (p : ChP) (i : Nat) (x : En) (on : Bool) (w : World) (k0 : w.cell? ⟨p.bk, 0, none⟩ = some (.int .u32 p.key)) (o0 : w.cell? ⟨p.bo, 0, none⟩ = some (.bool on)) (hn : ¬ (x.k = p.key ∧ on = true)) :
    Calls Try.prog 59 #[.int .i64 (i : Int), En.val x, .pointer (some ⟨p.bk, 0, none⟩), .pointer (some ⟨p.bo, 0, none⟩), .pointer (some ⟨p.bf, 0, none⟩)] w fun e w' => e = .returned (.bool false) ∧ Frm w w' fun _ => False := by
  have l1 := World.block_lt_of_cell? w _ k0
  have l2 := World.block_lt_of_cell? w _ o0
  simp only at l1 l2
  by_cases hk : x.k = p.key
  · have hon : on = false := by
      cases on
      · rfl
      · exact absurd ⟨hk, rfl⟩ hn
    subst hon
    have b1 : (x.k != p.key) = false := by simp [hk]
    clear hn hk
    go_enter Try.func59, Try.ntmps59
    go_wp2_with fail
    go_ret
    exact ⟨rfl, (Frm.refl _ _).alloc _⟩
  · have b1 : (x.k != p.key) = true := by simp [hk]
    clear hn hk
    go_enter Try.func59, Try.ntmps59
    go_wp2_with fail
    go_ret
    exact ⟨rfl, (Frm.refl _ _).alloc _⟩
set_option maxRecDepth 100000 in
set_option maxHeartbeats 2000000 in
theorem clos59_take (p : ChP) (ok : p.Ok) (xs : List En) (i : Nat) (x : En) (hi : i < xs.length) (hx : x = xs[i]) (s : ChS) (w : World) (h : ChI p xs i s w) (hk : x.k = p.key) (hon : s.on = true) (hfew : (s.asked.length : Int) ≤ 1000) :
    Calls Try.prog 59 #[.int .i64 (i : Int), En.val x, .pointer (some ⟨p.bk, 0, none⟩), .pointer (some ⟨p.bo, 0, none⟩), .pointer (some ⟨p.bf, 0, none⟩)] w fun e w' => e = .returned (.bool (decide (chV p.ch s.asked.length = 0))) ∧
      ∃ s', ChI p xs (i + 1) s' w' ∧ Frm w w' (p.own s) ∧ ∀ k, p.own s' k → p.own s k ∨ w.heap.size ≤ k := by
  have k0 := h.k0
  have o0 := h.o0
  have fo := h.fo
  have f0 := h.f0
  rw [hon] at o0
  have l1 := World.block_lt_of_cell? w _ k0
  have l2 := World.block_lt_of_cell? w _ o0
  have l3 := World.block_lt_of_cell? w _ f0
  simp only at l1 l2 l3
  have b1 : (x.k != p.key) = false := by simp [hk]
  have hm := method_row
  have HA : ∀ W, (Frm w W fun _ => False) → Hid (Calls Try.prog 101 #[.pointer (some ⟨p.br, 0, none⟩), .int .u64 x.tok] W fun e w' => e = .returned (.int .u8 (chV p.ch s.asked.length : Nat)) ∧ RowAsked W w' p.B p.br p.X p.m p.cx s.A (s.asked ++ [x.tok])) := fun W hf => by
    have h' := h.frm ok hf (fun _ _ => id) (fun _ h => h.elim)
    exact choose_any p.B p.br p.m p.cx s.cap p.X s.A s.asked p.ch x.tok W h'.row h'.ch ok.u (fun j hj => ⟨(ok.X j hj).2.1, fun hA => by have := (ok.X j hj).1; have := h.far j hA; omega⟩) h'.size hfew
  have hlt := chV_lt p.ch s.asked.length
  obtain ⟨c, hc⟩ : ∃ c, chV p.ch s.asked.length = c := ⟨_, rfl⟩
  have HC := Lib.hid hc
  rw [hc] at hlt
  subst hx
  have HK := Lib.hid hk
  have HON := Lib.hid hon
  have H := Lib.hid h
  have nbo : ¬ p.bo = p.br := ok.or
  have fin : ∀ W w2, (Frm w W fun _ => False) → RowAsked W w2 p.B p.br p.X p.m p.cx s.A (s.asked ++ [xs[i].tok]) → w2.cell? ⟨p.bo, 0, none⟩ = some (.bool true) ∧ w2.frozen? ⟨p.bo, 0, none⟩ = false ∧ p.bo < w2.heap.size := fun W w2 hf ha => by
    obtain ⟨A', cap', _, hf2, _⟩ := ha
    have hn : ¬ (p.bo = p.br ∨ blk s.A p.bo) := fun e => e.elim ok.or (fun e => by have := H.out.far _ e; have := ok.bo; omega)
    have o1 := hf2.cell (hf.cell o0 id) hn
    exact ⟨o1, (hf2.frozen (p := ⟨p.bo, 0, none⟩) (Nat.lt_of_lt_of_le l2 hf.size) hn).trans ((hf.frozen (p := ⟨p.bo, 0, none⟩) l2 id).trans fo), World.block_lt_of_cell? w2 _ o1⟩
  have FIN := Lib.hid fin
  clear hc h hk hon fin hfew
  by_cases c0 : c = 0
  · have t0 : ((c : Int) == 0) = true := by simp; omega
    have e0 : Hid (decide (c = 0) = true) := by show _ = _; simp [c0]
    have hb : Hid (true = (decide (chV p.ch s.asked.length = 0) || decide (chV p.ch s.asked.length = 1))) := by show _ = _; rw [HC.out]; simp [c0]
    clear c0 hlt
    go_enter Try.func59, Try.ntmps59
    go_wp2_with (go_at_call 101; refine (HA _ ((Frm.refl _ _).alloc _)).out.mono ?_; rw [HC.out]; rintro e w2 ⟨rfl, ha⟩; obtain ⟨o2, f2, l4⟩ := FIN.out _ _ ((Frm.refl _ _).alloc _) ha; have AK := Lib.hid ha; clear ha)
    go_ret
    rw [HC.out, e0.out]
    exact ⟨rfl, H.out.take hi HK.out HON.out ok ((Frm.refl _ _).alloc _) AK.out true hb.out⟩
  · have t0 : ((c : Int) == 0) = false := by simp; omega
    have e0 : Hid (decide (c = 0) = false) := by show _ = _; simp [c0]
    by_cases c1 : c = 1
    · have t1 : ((c : Int) == 1) = true := by simp; omega
      have hb : Hid (true = (decide (chV p.ch s.asked.length = 0) || decide (chV p.ch s.asked.length = 1))) := by show _ = _; rw [HC.out]; simp [c1]
      clear c0 c1 hlt
      go_enter Try.func59, Try.ntmps59
      go_wp2_with (go_at_call 101; refine (HA _ ((Frm.refl _ _).alloc _)).out.mono ?_; rw [HC.out]; rintro e w2 ⟨rfl, ha⟩; obtain ⟨o2, f2, l4⟩ := FIN.out _ _ ((Frm.refl _ _).alloc _) ha; have AK := Lib.hid ha; clear ha)
      go_ret
      rw [HC.out, e0.out]
      exact ⟨rfl, H.out.take hi HK.out HON.out ok ((Frm.refl _ _).alloc _) AK.out true hb.out⟩
    · have t1 : ((c : Int) == 1) = false := by simp; omega
      have hb : Hid (false = (decide (chV p.ch s.asked.length = 0) || decide (chV p.ch s.asked.length = 1))) := by show _ = _; rw [HC.out]; simp [c0, c1]
      clear c0 c1 hlt
      go_enter Try.func59, Try.ntmps59
      go_wp2_with (go_at_call 101; refine (HA _ ((Frm.refl _ _).alloc _)).out.mono ?_; rw [HC.out]; rintro e w2 ⟨rfl, ha⟩; obtain ⟨o2, f2, l4⟩ := FIN.out _ _ ((Frm.refl _ _).alloc _) ha; have AK := Lib.hid ha; clear ha)
      go_ret
      rw [HC.out, e0.out]
      exact ⟨rfl, H.out.take hi HK.out HON.out ok ((Frm.refl _ _).alloc _) AK.out false hb.out⟩
theorem clos59 (p : ChP) (ok : p.Ok) (xs : List En) (hl : (xs.length : Int) ≤ 1000) :
    Clos 59 (fun i x => #[.int .i64 (i : Int), En.val x, .pointer (some ⟨p.bk, 0, none⟩), .pointer (some ⟨p.bo, 0, none⟩), .pointer (some ⟨p.bf, 0, none⟩)]) xs ChS (ChI p xs) p.own (chSo p.ch p.key xs) p.B := by
  refine ⟨fun i s w w' S h hf ho hB => h.frm ok hf ho hB, fun i s w k h hk => ?_, fun i hi s w h => ?_⟩
  · rcases hk with rfl | rfl | hk
    · exact World.block_lt_of_cell? w _ h.o0
    · exact h.row.blt
    · exact (h.row.sl.ge hk).2
  · by_cases hn : xs[i].k = p.key ∧ s.on = true
    · have hfew : (s.asked.length : Int) ≤ 1000 := by
        rw [h.ask]
        have := chRun_len p.ch p.key (xs.take i)
        rw [List.length_take] at this
        omega
      have e : chSo p.ch p.key xs i = decide (chV p.ch s.asked.length = 0) := by rw [chSo_at _ _ _ _ hi, ← h.on, ← h.ask, hn.2]; simp [hn.1]
      rw [e]
      exact clos59_take p ok xs i xs[i] hi rfl s w h hn.1 hn.2 hfew
    · have e : chSo p.ch p.key xs i = false := by
        rw [chSo_at _ _ _ _ hi, ← h.on]
        by_cases h1 : xs[i].k = p.key
        · have : s.on = false := by
            cases ho : s.on
            · rfl
            · exact absurd ⟨h1, ho⟩ hn
          simp [this]
        · simp [h1]
      rw [e]
      refine (clos59_skip p i xs[i] s.on w h.k0 h.o0 hn).mono ?_
      rintro e w' ⟨rfl, hf⟩
      exact ⟨rfl, s, h.skip hi hn ok hf, hf.none_ _, fun k hk => .inl hk⟩
end Go.Proofs.Ytaenclbbiodhfaa
