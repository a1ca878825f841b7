import Derived.Test.YtaenclbbiodhfaaLnA
import Derived.Deep.RegionHeld3
namespace Go.Proofs.Ytaenclbbiodhfaa
open Go.RowKit

/-- A closure that says of each entry whether it is so: its own state lies in the blocks 'own s'. -/
structure Clos (F : FuncId) (args : Nat → En → Array Value) (xs : List En) (σ : Type) (I : Nat → σ → World → Prop) (own : σ → Nat → Prop) (so : Nat → Bool) (B : Nat) : Prop where
  frm : ∀ (i : Nat) (s : σ) (w w' : World) (S : Nat → Prop), I i s w → Frm w w' S → (∀ k, own s k → ¬ S k) → (∀ k, S k → B ≤ k) → I i s w'
  lt : ∀ (i : Nat) (s : σ) (w : World) (k : Nat), I i s w → own s k → k < w.heap.size
  step : ∀ (i : Nat) (hi : i < xs.length) (s : σ) (w : World), I i s w → Calls Try.prog F (args i xs[i]) w fun e w' => e = .returned (.bool (so i)) ∧ ∃ s', I (i + 1) s' w' ∧ Frm w w' (own s) ∧ ∀ k, own s' k → own s k ∨ w.heap.size ≤ k
/-- An entry in a variable. -/
def Box3 (w : World) (g : Nat) (x : En) : Prop := w.cell? ⟨g, 0, none⟩ = some (.int .i64 x.t) ∧ w.cell? ⟨g, 1, none⟩ = some (.int .u32 x.k) ∧ w.cell? ⟨g, 2, none⟩ = some (.int .u64 x.tok)
theorem box3 (w : World) (t : TypeId) (x : En) : Box3 (w.alloc (.cells #[.int .i64 x.t, .int .u32 x.k, .int .u64 x.tok] t)) w.heap.size x :=
  ⟨by rw [World.cell?_alloc_new]; rfl, by rw [World.cell?_alloc_new]; rfl, by rw [World.cell?_alloc_new]; rfl⟩

section
variable {σ : Type} {F : FuncId} {args : Nat → En → Array Value} {xs : List En} {I : Nat → σ → World → Prop} {own : σ → Nat → Prop} {so : Nat → Bool} {s0 s s2 : σ} {w wr w2 w3 W : World} {k cy cn B : Nat} {Ay An A' : Option Addr} {x : En}
/-- Between two rounds of part. -/
structure Mid (so : Nat → Bool) (xs : List En) (I : Nat → σ → World → Prop) (own : σ → Nat → Prop) (s0 : σ) (w wr : World) (k i : Nat) (Ay : Option Addr) (cy : Nat) (An : Option Addr) (cn : Nat) (s : σ) : Prop where
  sy : Sl wr w.heap.size 3 Ay (sel so xs k).length cy (ens (sel so xs k))
  sn : Sl wr w.heap.size 3 An (sel (fun i => !(so i)) xs k).length cn (ens (sel (fun i => !(so i)) xs k))
  st : I i s wr
  dyn : ∀ j, blk Ay j → ¬ blk An j
  dy : ∀ j, blk Ay j → ¬ own s j
  dn : ∀ j, blk An j → ¬ own s j
  ob : ∀ j, own s j → own s0 j ∨ w.heap.size ≤ j
  frm : Frm w wr (own s0)
theorem Mid.start (h : I 0 s0 w) : Mid so xs I own s0 w w 0 0 none 0 none 0 s0 :=
  ⟨Sl.nil _ _ _, Sl.nil _ _ _, h, fun _ h => (blk_none _ h).elim, fun _ h => (blk_none _ h).elim, fun _ h => (blk_none _ h).elim, fun _ h => .inl h, Frm.refl _ _⟩
/-- Behind the closure's call. -/
def Asked (so : Nat → Bool) (xs : List En) (I : Nat → σ → World → Prop) (own : σ → Nat → Prop) (s0 : σ) (w : World) (k : Nat) (Ay : Option Addr) (cy : Nat) (An : Option Addr) (cn : Nat) (g : Nat) (x : En) (w2 : World) : Prop :=
  ∃ s2, Mid so xs I own s0 w w2 k (k + 1) Ay cy An cn s2 ∧ Box3 w2 g x
theorem Mid.call (hC : Clos F args xs σ I own so B) (M : Mid so xs I own s0 w wr k k Ay cy An cn s) (hk : k < xs.length) (hx : x = xs[k]) :
    ∀ W, (Frm wr W fun _ => False) → Box3 W wr.heap.size x → Calls Try.prog F (args k x) W fun e w2 => e = .returned (.bool (so k)) ∧ Asked so xs I own s0 w k Ay cy An cn wr.heap.size x w2 := by
  subst hx
  intro W hf hb
  refine (hC.step k hk s W (hC.frm k s wr W _ M.st hf (fun _ _ => id) (fun _ h => h.elim))).mono ?_
  rintro e w2 ⟨rfl, s2, h2, hf2, ho⟩
  have hl : ∀ j, own s j → j < wr.heap.size := fun j hj => hC.lt k s wr j M.st hj
  have hs := hf.size
  refine ⟨rfl, s2, ⟨(M.sy.new_ hf).frm hf2 M.dy, (M.sn.new_ hf).frm hf2 M.dn, h2, M.dyn, fun j hj hs2 => ?_, fun j hj hs2 => ?_, fun j hj => ?_, ?_⟩, ?_⟩
  · rcases ho j hs2 with h | h
    · exact M.dy j hj h
    · have := (M.sy.ge hj).2; omega
  · rcases ho j hs2 with h | h
    · exact M.dn j hj h
    · have := (M.sn.ge hj).2; omega
  · rcases ho j hj with h | h
    · exact M.ob j h
    · exact .inr (Nat.le_trans (Nat.le_trans M.frm.size hs) h)
  · exact (M.frm.trans hf (fun _ _ h => h.elim)).all hf2 M.ob
  · have hg : ¬ own s wr.heap.size := fun h => by have := hl _ h; omega
    exact ⟨hf2.cell hb.1 hg, hf2.cell hb.2.1 hg, hf2.cell hb.2.2 hg⟩
theorem Mid.yes (M : Mid so xs I own s0 w w2 k (k + 1) Ay cy An cn s2) {l : Nat} (h : (sel so xs k).length = l) : Sl w2 w.heap.size 3 Ay l cy (ens (sel so xs k)) := h ▸ M.sy
theorem Mid.no (M : Mid so xs I own s0 w w2 k (k + 1) Ay cy An cn s2) {l : Nat} (h : (sel (fun i => !(so i)) xs k).length = l) : Sl w2 w.heap.size 3 An l cn (ens (sel (fun i => !(so i)) xs k)) := h ▸ M.sn
theorem Mid.takes (hC : Clos F args xs σ I own so B) (hB : B ≤ w.heap.size) (M : Mid so xs I own s0 w w2 k (k + 1) Ay cy An cn s2) (hk : k < xs.length) (hso : so k = true) (hx : x = xs[k]) {l cap' : Nat} (hl : (sel so xs k).length = l) {o : Obj}
    (ha : Appended (w2.alloc o) w3 w.heap.size 3 Ay A' (l + 1) cap' (ens (sel so xs k) ++ x.V)) : Mid so xs I own s0 w w3 (k + 1) (k + 1) A' cap' An cn s2 := by
  obtain ⟨hs, hf, hA⟩ := ha
  have hal : Frm w2 (w2.alloc o) fun _ => False := (Frm.refl _ _).alloc _
  have e1 : sel so xs (k + 1) = sel so xs k ++ [x] := by rw [sel_succ so xs k hk, hso, hx]; rfl
  have e2 : sel (fun i => !(so i)) xs (k + 1) = sel (fun i => !(so i)) xs k := by rw [sel_succ _ xs k hk]; simp [hso]
  have hsz : w2.heap.size < (w2.alloc o).heap.size := by simp
  refine ⟨?_, ?_, ?_, fun j hj hn => ?_, fun j hj ho => ?_, M.dn, M.ob, ?_⟩
  · rw [e1, ens_snoc, List.length_append, hl]; exact hs
  · rw [e2]; exact (M.sn.new_ hal).frm hf (fun j hj h => M.dyn j h hj)
  · exact hC.frm _ _ _ _ _ (hC.frm _ _ _ _ _ M.st hal (fun _ _ => id) (fun _ h => h.elim)) hf (fun j hj h => M.dy j h hj) (fun j hj => Nat.le_trans hB (M.sy.ge hj).1)
  · rcases hA j hj with h | h
    · exact M.dyn j h hn
    · have := (M.sn.ge hn).2; omega
  · rcases hA j hj with h | h
    · exact M.dy j h ho
    · have := hC.lt _ _ _ j M.st ho; omega
  · exact (M.frm.trans hal (fun _ _ h => h.elim)).all hf (fun j hj => .inr (M.sy.ge hj).1)
theorem Mid.leaves (hC : Clos F args xs σ I own so B) (hB : B ≤ w.heap.size) (M : Mid so xs I own s0 w w2 k (k + 1) Ay cy An cn s2) (hk : k < xs.length) (hso : so k = false) (hx : x = xs[k]) {l cap' : Nat} (hl : (sel (fun i => !(so i)) xs k).length = l) {o : Obj}
    (ha : Appended (w2.alloc o) w3 w.heap.size 3 An A' (l + 1) cap' (ens (sel (fun i => !(so i)) xs k) ++ x.V)) : Mid so xs I own s0 w w3 (k + 1) (k + 1) Ay cy A' cap' s2 := by
  obtain ⟨hs, hf, hA⟩ := ha
  have hal : Frm w2 (w2.alloc o) fun _ => False := (Frm.refl _ _).alloc _
  have e1 : sel so xs (k + 1) = sel so xs k := by rw [sel_succ so xs k hk, hso]; simp
  have e2 : sel (fun i => !(so i)) xs (k + 1) = sel (fun i => !(so i)) xs k ++ [x] := by rw [sel_succ _ xs k hk, hx]; simp [hso]
  have hsz : w2.heap.size < (w2.alloc o).heap.size := by simp
  refine ⟨?_, ?_, ?_, fun j hj hn => ?_, M.dy, fun j hj ho => ?_, M.ob, ?_⟩
  · rw [e1]; exact (M.sy.new_ hal).frm hf M.dyn
  · rw [e2, ens_snoc, List.length_append, hl]; exact hs
  · exact hC.frm _ _ _ _ _ (hC.frm _ _ _ _ _ M.st hal (fun _ _ => id) (fun _ h => h.elim)) hf (fun j hj h => M.dn j h hj) (fun j hj => Nat.le_trans hB (M.sn.ge hj).1)
  · rcases hA j hn with h | h
    · exact M.dyn j hj h
    · have := (M.sy.ge hj).2; omega
  · rcases hA j hj with h | h
    · exact M.dn j h ho
    · have := hC.lt _ _ _ j M.st ho; omega
  · exact (M.frm.trans hal (fun _ _ h => h.elim)).all hf (fun j hj => .inr (M.sn.ge hj).1)
/-- What part leaves: the two lists, each with no room behind it. -/
def Parted (so : Nat → Bool) (xs : List En) (I : Nat → σ → World → Prop) (own : σ → Nat → Prop) (s0 : σ) (w w' : World) (v : Value) : Prop :=
  ∃ Ay An s, v = .tuple #[.slice Ay (sel so xs xs.length).length (sel so xs xs.length).length, .slice An (sel (fun i => !(so i)) xs xs.length).length (sel (fun i => !(so i)) xs xs.length).length] ∧
    Mid so xs I own s0 w w' xs.length xs.length Ay (sel so xs xs.length).length An (sel (fun i => !(so i)) xs xs.length).length s
theorem Mid.clipped (M : Mid so xs I own s0 w w2 k k Ay cy An cn s2) : Mid so xs I own s0 w w2 k k Ay (sel so xs k).length An (sel (fun i => !(so i)) xs k).length s2 :=
  ⟨M.sy.clip (Nat.le_refl _) M.sy.le, M.sn.clip (Nat.le_refl _) M.sn.le, M.st, M.dyn, M.dy, M.dn, M.ob, M.frm⟩
end
set_option maxRecDepth 100000 in
set_option maxHeartbeats 2000000 in
theorem part_59 {σ : Type} (c1 c2 c3 : Value) (xs : List En) (I : Nat → σ → World → Prop) (own : σ → Nat → Prop) (so : Nat → Bool) (B : Nat) (w : World) (hC : Clos 59 (fun i x => #[.int .i64 (i : Int), En.val x, c1, c2, c3]) xs σ I own so B)
    (hB : B ≤ w.heap.size) (A : Option Addr) (n c : Nat) (hr : Rd w w.heap.size 3 A n (ens xs)) (hn : (n : Int) ≤ 1000) (s0 : σ) (h0 : I 0 s0 w) (hA : ∀ j, blk A j → ¬ own s0 j) :
    Calls Try.prog 58 #[.slice A n c, .func (.func 59) #[] #[c1, c2, c3]] w fun e w' => ∃ v, e = .returned v ∧ Parted so xs I own s0 w w' v := by
  obtain ⟨hlen, hcells⟩ := Rd.ens hr
  have HA := Lib.hid hA
  have HR := Lib.hid hr
  have HC := Lib.hid hC
  have HL := Lib.hid hlen
  have H0 := Lib.hid h0
  have HCE := Lib.hid hcells
  obtain ⟨i35, hi, hz0, hz1, hz2⟩ := info_parts info35
  clear hr hC hlen h0 hcells hA
  go_enter Try.func58, Try.ntmps58
  go_wp2_with fail
  go_loopw [4, 5, 6, 7, 10] (fun y z _ _ i wr => ∃ (k : Nat) (Ay : Option Addr) (cy : Nat) (An : Option Addr) (cn : Nat) (s : σ), i = .int .i64 k ∧ k ≤ n ∧ y = .slice Ay (sel so xs k).length cy ∧ z = .slice An (sel (fun i => !(so i)) xs k).length cn ∧ Mid so xs I own s0 w wr k k Ay cy An cn s) (fun _ _ _ _ i _ => n - (intOf i).toNat)
  case atStart => exact ⟨0, none, 0, none, 0, s0, rfl, Nat.zero_le _, rfl, rfl, Mid.start H0.out⟩
  case round =>
    obtain ⟨k, Ay, cy, An, cn, s, rfl, hk, rfl, rfl, hM⟩ := hrel
    have M := Lib.hid hM
    clear hM
    have hle1 := sel_le so xs k
    have hle2 := sel_le (fun i => !(so i)) xs k
    by_cases hlt : k < n
    · obtain ⟨g, off, rfl, hg, hcell⟩ := HCE.out (by omega)
      have hkl : k < xs.length := by have := HL.out; omega
      obtain ⟨x, hx⟩ : ∃ x, x = xs[k] := ⟨_, rfl⟩
      have hc := hcell k hkl
      rw [← hx] at hc
      obtain ⟨q0, q1, q2⟩ := hc
      have hsrc := HA.out g ((blk_some _ _ _).2 rfl)
      replace q0 := M.out.frm.cell q0 hsrc
      replace q1 := M.out.frm.cell q1 hsrc
      replace q2 := M.out.frm.cell q2 hsrc
      have i0 : (0 : Int) ≤ (k : Int) := by omega
      have i1 : (k : Int) < (n : Int) := by omega
      have HX := Lib.hid hx
      obtain ⟨ly, hly⟩ : ∃ l, (sel so xs k).length = l := ⟨_, rfl⟩
      obtain ⟨ln, hln⟩ : ∃ l, (sel (fun i => !(so i)) xs k).length = l := ⟨_, rfl⟩
      have HLY := Lib.hid hly
      have HLN := Lib.hid hln
      rw [hly] at hle1
      rw [hln] at hle2
      have bb : ly + 1 ≤ maxLen ∧ (ly + 1) * 24 ≤ 140737488355328 ∧ ln + 1 ≤ maxLen ∧ (ln + 1) * 24 ≤ 140737488355328 := by unfold maxLen; omega
      obtain ⟨r1, r2, r3, r4⟩ := bb
      have hst := Mid.call HC.out M.out hkl hx
      have HST := Lib.hid hst
      rw [hly, hln]
      clear hcell hx hly hln hst hsrc
      by_cases hso : so k = true
      · go_wp2_with (first
          | (go_at_call 59; refine (HST.out _ ((Frm.refl _ _).alloc _) (box3 _ _ _)).mono ?_; rw [hso]; rintro e w2 ⟨rfl, hd⟩; obtain ⟨s2, M2, b0, b1, b2⟩ := hd; replace M2 := Lib.hid M2)
          | (at_builtin; refine wpList_append_sl _ rfl (.tmp 19) (.tmp 21) 22 rfl w.heap.size 35 i35 _ 3 24 Try.underlying22 hi hz0 hz1 hz2 rfl (by decide) _ _ _ _ rfl ((M2.out.yes HLY.out).alloc _) _ 1 1 x.V rfl (Rd.fresh_at _ 35 #[.int .i64 x.t, .int .u32 x.k, .int .u64 x.tok] rfl rfl) x.one r1 r2 (Nat.le_trans M2.out.frm.size (by simp)) ?_; intro A' cap' w3 hap; replace hap := Lib.hid hap))
        go_roundw
        case rel => exact ⟨k + 1, A', cap', An, cn, s2, by go_num, by omega, by rw [sel_succ so xs k hkl, hso, List.length_append, HLY.out]; rfl, by rw [sel_succ _ xs k hkl, hso, List.length_append, HLN.out]; rfl, Mid.takes HC.out hB M2.out hkl hso HX.out HLY.out hap.out⟩
        case measure => simp [intOf]; omega
      · have hso' : so k = false := by simpa using hso
        clear hso
        go_wp2_with (first
          | (go_at_call 59; refine (HST.out _ ((Frm.refl _ _).alloc _) (box3 _ _ _)).mono ?_; rw [hso']; rintro e w2 ⟨rfl, hd⟩; obtain ⟨s2, M2, b0, b1, b2⟩ := hd; replace M2 := Lib.hid M2)
          | (at_builtin; refine wpList_append_sl _ rfl (.tmp 23) (.tmp 25) 22 rfl w.heap.size 35 i35 _ 3 24 Try.underlying22 hi hz0 hz1 hz2 rfl (by decide) _ _ _ _ rfl ((M2.out.no HLN.out).alloc _) _ 1 1 x.V rfl (Rd.fresh_at _ 35 #[.int .i64 x.t, .int .u32 x.k, .int .u64 x.tok] rfl rfl) x.one r3 r4 (Nat.le_trans M2.out.frm.size (by simp)) ?_; intro A' cap' w3 hap; replace hap := Lib.hid hap))
        go_roundw
        case rel => exact ⟨k + 1, Ay, cy, A', cap', s2, by go_num, by omega, by rw [sel_succ so xs k hkl, hso', List.length_append, HLY.out]; rfl, by rw [sel_succ _ xs k hkl, hso', List.length_append, HLN.out]; rfl, Mid.leaves HC.out hB M2.out hkl hso' HX.out HLN.out hap.out⟩
        case measure => simp [intOf]; omega
    · obtain rfl : k = n := by omega
      have hc1 := M.out.sy.le
      have hc2 := M.out.sn.le
      go_wp2_with (go_at_call 66; first | ((with_reducible refine (clip_any _ _ _ hc1 _).mono ?_); rintro e w' ⟨rfl, rfl⟩) | ((with_reducible refine (clip_any _ _ _ hc2 _).mono ?_); rintro e w' ⟨rfl, rfl⟩))
      go_ret2
      have hkx : k = xs.length := HL.out
      subst hkx
      exact ⟨_, rfl, Ay, An, s, rfl, M.out.clipped⟩

set_option maxRecDepth 100000 in
set_option maxHeartbeats 2000000 in
theorem part_63 {σ : Type} (c1 : Value) (xs : List En) (I : Nat → σ → World → Prop) (own : σ → Nat → Prop) (so : Nat → Bool) (B : Nat) (w : World) (hC : Clos 63 (fun i x => #[.int .i64 (i : Int), En.val x, c1]) xs σ I own so B)
    (hB : B ≤ w.heap.size) (A : Option Addr) (n c : Nat) (hr : Rd w w.heap.size 3 A n (ens xs)) (hn : (n : Int) ≤ 1000) (s0 : σ) (h0 : I 0 s0 w) (hA : ∀ j, blk A j → ¬ own s0 j) :
    Calls Try.prog 58 #[.slice A n c, .func (.func 63) #[] #[c1]] w fun e w' => ∃ v, e = .returned v ∧ Parted so xs I own s0 w w' v := by
  obtain ⟨hlen, hcells⟩ := Rd.ens hr
  have HA := Lib.hid hA
  have HR := Lib.hid hr
  have HC := Lib.hid hC
  have HL := Lib.hid hlen
  have H0 := Lib.hid h0
  have HCE := Lib.hid hcells
  obtain ⟨i35, hi, hz0, hz1, hz2⟩ := info_parts info35
  clear hr hC hlen h0 hcells hA
  go_enter Try.func58, Try.ntmps58
  go_wp2_with fail
  go_loopw [4, 5, 6, 7, 10] (fun y z _ _ i wr => ∃ (k : Nat) (Ay : Option Addr) (cy : Nat) (An : Option Addr) (cn : Nat) (s : σ), i = .int .i64 k ∧ k ≤ n ∧ y = .slice Ay (sel so xs k).length cy ∧ z = .slice An (sel (fun i => !(so i)) xs k).length cn ∧ Mid so xs I own s0 w wr k k Ay cy An cn s) (fun _ _ _ _ i _ => n - (intOf i).toNat)
  case atStart => exact ⟨0, none, 0, none, 0, s0, rfl, Nat.zero_le _, rfl, rfl, Mid.start H0.out⟩
  case round =>
    obtain ⟨k, Ay, cy, An, cn, s, rfl, hk, rfl, rfl, hM⟩ := hrel
    have M := Lib.hid hM
    clear hM
    have hle1 := sel_le so xs k
    have hle2 := sel_le (fun i => !(so i)) xs k
    by_cases hlt : k < n
    · obtain ⟨g, off, rfl, hg, hcell⟩ := HCE.out (by omega)
      have hkl : k < xs.length := by have := HL.out; omega
      obtain ⟨x, hx⟩ : ∃ x, x = xs[k] := ⟨_, rfl⟩
      have hc := hcell k hkl
      rw [← hx] at hc
      obtain ⟨q0, q1, q2⟩ := hc
      have hsrc := HA.out g ((blk_some _ _ _).2 rfl)
      replace q0 := M.out.frm.cell q0 hsrc
      replace q1 := M.out.frm.cell q1 hsrc
      replace q2 := M.out.frm.cell q2 hsrc
      have i0 : (0 : Int) ≤ (k : Int) := by omega
      have i1 : (k : Int) < (n : Int) := by omega
      have HX := Lib.hid hx
      obtain ⟨ly, hly⟩ : ∃ l, (sel so xs k).length = l := ⟨_, rfl⟩
      obtain ⟨ln, hln⟩ : ∃ l, (sel (fun i => !(so i)) xs k).length = l := ⟨_, rfl⟩
      have HLY := Lib.hid hly
      have HLN := Lib.hid hln
      rw [hly] at hle1
      rw [hln] at hle2
      have bb : ly + 1 ≤ maxLen ∧ (ly + 1) * 24 ≤ 140737488355328 ∧ ln + 1 ≤ maxLen ∧ (ln + 1) * 24 ≤ 140737488355328 := by unfold maxLen; omega
      obtain ⟨r1, r2, r3, r4⟩ := bb
      have hst := Mid.call HC.out M.out hkl hx
      have HST := Lib.hid hst
      rw [hly, hln]
      clear hcell hx hly hln hst hsrc
      by_cases hso : so k = true
      · go_wp2_with (first
          | (go_at_call 63; refine (HST.out _ ((Frm.refl _ _).alloc _) (box3 _ _ _)).mono ?_; rw [hso]; rintro e w2 ⟨rfl, hd⟩; obtain ⟨s2, M2, b0, b1, b2⟩ := hd; replace M2 := Lib.hid M2)
          | (at_builtin; refine wpList_append_sl _ rfl (.tmp 19) (.tmp 21) 22 rfl w.heap.size 35 i35 _ 3 24 Try.underlying22 hi hz0 hz1 hz2 rfl (by decide) _ _ _ _ rfl ((M2.out.yes HLY.out).alloc _) _ 1 1 x.V rfl (Rd.fresh_at _ 35 #[.int .i64 x.t, .int .u32 x.k, .int .u64 x.tok] rfl rfl) x.one r1 r2 (Nat.le_trans M2.out.frm.size (by simp)) ?_; intro A' cap' w3 hap; replace hap := Lib.hid hap))
        go_roundw
        case rel => exact ⟨k + 1, A', cap', An, cn, s2, by go_num, by omega, by rw [sel_succ so xs k hkl, hso, List.length_append, HLY.out]; rfl, by rw [sel_succ _ xs k hkl, hso, List.length_append, HLN.out]; rfl, Mid.takes HC.out hB M2.out hkl hso HX.out HLY.out hap.out⟩
        case measure => simp [intOf]; omega
      · have hso' : so k = false := by simpa using hso
        clear hso
        go_wp2_with (first
          | (go_at_call 63; refine (HST.out _ ((Frm.refl _ _).alloc _) (box3 _ _ _)).mono ?_; rw [hso']; rintro e w2 ⟨rfl, hd⟩; obtain ⟨s2, M2, b0, b1, b2⟩ := hd; replace M2 := Lib.hid M2)
          | (at_builtin; refine wpList_append_sl _ rfl (.tmp 23) (.tmp 25) 22 rfl w.heap.size 35 i35 _ 3 24 Try.underlying22 hi hz0 hz1 hz2 rfl (by decide) _ _ _ _ rfl ((M2.out.no HLN.out).alloc _) _ 1 1 x.V rfl (Rd.fresh_at _ 35 #[.int .i64 x.t, .int .u32 x.k, .int .u64 x.tok] rfl rfl) x.one r3 r4 (Nat.le_trans M2.out.frm.size (by simp)) ?_; intro A' cap' w3 hap; replace hap := Lib.hid hap))
        go_roundw
        case rel => exact ⟨k + 1, Ay, cy, A', cap', s2, by go_num, by omega, by rw [sel_succ so xs k hkl, hso', List.length_append, HLY.out]; rfl, by rw [sel_succ _ xs k hkl, hso', List.length_append, HLN.out]; rfl, Mid.leaves HC.out hB M2.out hkl hso' HX.out HLN.out hap.out⟩
        case measure => simp [intOf]; omega
    · obtain rfl : k = n := by omega
      have hc1 := M.out.sy.le
      have hc2 := M.out.sn.le
      go_wp2_with (go_at_call 66; first | ((with_reducible refine (clip_any _ _ _ hc1 _).mono ?_); rintro e w' ⟨rfl, rfl⟩) | ((with_reducible refine (clip_any _ _ _ hc2 _).mono ?_); rintro e w' ⟨rfl, rfl⟩))
      go_ret2
      have hkx : k = xs.length := HL.out
      subst hkx
      exact ⟨_, rfl, Ay, An, s, rfl, M.out.clipped⟩

set_option maxRecDepth 100000 in
set_option maxHeartbeats 2000000 in
theorem part_64 {σ : Type} (c1 c2 : Value) (xs : List En) (I : Nat → σ → World → Prop) (own : σ → Nat → Prop) (so : Nat → Bool) (B : Nat) (w : World) (hC : Clos 64 (fun i x => #[.int .i64 (i : Int), En.val x, c1, c2]) xs σ I own so B)
    (hB : B ≤ w.heap.size) (A : Option Addr) (n c : Nat) (hr : Rd w w.heap.size 3 A n (ens xs)) (hn : (n : Int) ≤ 1000) (s0 : σ) (h0 : I 0 s0 w) (hA : ∀ j, blk A j → ¬ own s0 j) :
    Calls Try.prog 58 #[.slice A n c, .func (.func 64) #[] #[c1, c2]] w fun e w' => ∃ v, e = .returned v ∧ Parted so xs I own s0 w w' v := by
  obtain ⟨hlen, hcells⟩ := Rd.ens hr
  have HA := Lib.hid hA
  have HR := Lib.hid hr
  have HC := Lib.hid hC
  have HL := Lib.hid hlen
  have H0 := Lib.hid h0
  have HCE := Lib.hid hcells
  obtain ⟨i35, hi, hz0, hz1, hz2⟩ := info_parts info35
  clear hr hC hlen h0 hcells hA
  go_enter Try.func58, Try.ntmps58
  go_wp2_with fail
  go_loopw [4, 5, 6, 7, 10] (fun y z _ _ i wr => ∃ (k : Nat) (Ay : Option Addr) (cy : Nat) (An : Option Addr) (cn : Nat) (s : σ), i = .int .i64 k ∧ k ≤ n ∧ y = .slice Ay (sel so xs k).length cy ∧ z = .slice An (sel (fun i => !(so i)) xs k).length cn ∧ Mid so xs I own s0 w wr k k Ay cy An cn s) (fun _ _ _ _ i _ => n - (intOf i).toNat)
  case atStart => exact ⟨0, none, 0, none, 0, s0, rfl, Nat.zero_le _, rfl, rfl, Mid.start H0.out⟩
  case round =>
    obtain ⟨k, Ay, cy, An, cn, s, rfl, hk, rfl, rfl, hM⟩ := hrel
    have M := Lib.hid hM
    clear hM
    have hle1 := sel_le so xs k
    have hle2 := sel_le (fun i => !(so i)) xs k
    by_cases hlt : k < n
    · obtain ⟨g, off, rfl, hg, hcell⟩ := HCE.out (by omega)
      have hkl : k < xs.length := by have := HL.out; omega
      obtain ⟨x, hx⟩ : ∃ x, x = xs[k] := ⟨_, rfl⟩
      have hc := hcell k hkl
      rw [← hx] at hc
      obtain ⟨q0, q1, q2⟩ := hc
      have hsrc := HA.out g ((blk_some _ _ _).2 rfl)
      replace q0 := M.out.frm.cell q0 hsrc
      replace q1 := M.out.frm.cell q1 hsrc
      replace q2 := M.out.frm.cell q2 hsrc
      have i0 : (0 : Int) ≤ (k : Int) := by omega
      have i1 : (k : Int) < (n : Int) := by omega
      have HX := Lib.hid hx
      obtain ⟨ly, hly⟩ : ∃ l, (sel so xs k).length = l := ⟨_, rfl⟩
      obtain ⟨ln, hln⟩ : ∃ l, (sel (fun i => !(so i)) xs k).length = l := ⟨_, rfl⟩
      have HLY := Lib.hid hly
      have HLN := Lib.hid hln
      rw [hly] at hle1
      rw [hln] at hle2
      have bb : ly + 1 ≤ maxLen ∧ (ly + 1) * 24 ≤ 140737488355328 ∧ ln + 1 ≤ maxLen ∧ (ln + 1) * 24 ≤ 140737488355328 := by unfold maxLen; omega
      obtain ⟨r1, r2, r3, r4⟩ := bb
      have hst := Mid.call HC.out M.out hkl hx
      have HST := Lib.hid hst
      rw [hly, hln]
      clear hcell hx hly hln hst hsrc
      by_cases hso : so k = true
      · go_wp2_with (first
          | (go_at_call 64; refine (HST.out _ ((Frm.refl _ _).alloc _) (box3 _ _ _)).mono ?_; rw [hso]; rintro e w2 ⟨rfl, hd⟩; obtain ⟨s2, M2, b0, b1, b2⟩ := hd; replace M2 := Lib.hid M2)
          | (at_builtin; refine wpList_append_sl _ rfl (.tmp 19) (.tmp 21) 22 rfl w.heap.size 35 i35 _ 3 24 Try.underlying22 hi hz0 hz1 hz2 rfl (by decide) _ _ _ _ rfl ((M2.out.yes HLY.out).alloc _) _ 1 1 x.V rfl (Rd.fresh_at _ 35 #[.int .i64 x.t, .int .u32 x.k, .int .u64 x.tok] rfl rfl) x.one r1 r2 (Nat.le_trans M2.out.frm.size (by simp)) ?_; intro A' cap' w3 hap; replace hap := Lib.hid hap))
        go_roundw
        case rel => exact ⟨k + 1, A', cap', An, cn, s2, by go_num, by omega, by rw [sel_succ so xs k hkl, hso, List.length_append, HLY.out]; rfl, by rw [sel_succ _ xs k hkl, hso, List.length_append, HLN.out]; rfl, Mid.takes HC.out hB M2.out hkl hso HX.out HLY.out hap.out⟩
        case measure => simp [intOf]; omega
      · have hso' : so k = false := by simpa using hso
        clear hso
        go_wp2_with (first
          | (go_at_call 64; refine (HST.out _ ((Frm.refl _ _).alloc _) (box3 _ _ _)).mono ?_; rw [hso']; rintro e w2 ⟨rfl, hd⟩; obtain ⟨s2, M2, b0, b1, b2⟩ := hd; replace M2 := Lib.hid M2)
          | (at_builtin; refine wpList_append_sl _ rfl (.tmp 23) (.tmp 25) 22 rfl w.heap.size 35 i35 _ 3 24 Try.underlying22 hi hz0 hz1 hz2 rfl (by decide) _ _ _ _ rfl ((M2.out.no HLN.out).alloc _) _ 1 1 x.V rfl (Rd.fresh_at _ 35 #[.int .i64 x.t, .int .u32 x.k, .int .u64 x.tok] rfl rfl) x.one r3 r4 (Nat.le_trans M2.out.frm.size (by simp)) ?_; intro A' cap' w3 hap; replace hap := Lib.hid hap))
        go_roundw
        case rel => exact ⟨k + 1, Ay, cy, A', cap', s2, by go_num, by omega, by rw [sel_succ so xs k hkl, hso', List.length_append, HLY.out]; rfl, by rw [sel_succ _ xs k hkl, hso', List.length_append, HLN.out]; rfl, Mid.leaves HC.out hB M2.out hkl hso' HX.out HLN.out hap.out⟩
        case measure => simp [intOf]; omega
    · obtain rfl : k = n := by omega
      have hc1 := M.out.sy.le
      have hc2 := M.out.sn.le
      go_wp2_with (go_at_call 66; first | ((with_reducible refine (clip_any _ _ _ hc1 _).mono ?_); rintro e w' ⟨rfl, rfl⟩) | ((with_reducible refine (clip_any _ _ _ hc2 _).mono ?_); rintro e w' ⟨rfl, rfl⟩))
      go_ret2
      have hkx : k = xs.length := HL.out
      subst hkx
      exact ⟨_, rfl, Ay, An, s, rfl, M.out.clipped⟩

end Go.Proofs.Ytaenclbbiodhfaa
