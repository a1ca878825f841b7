import Derived.Test.YtaenclbbiodhfaaScB
import Derived.Test.YtaenclbbiodhfaaSlc
namespace Go.Proofs.Ytaenclbbiodhfaa
open Go.RowKit
attribute [local go_sem] Oper.semAt_some

def Cm.V (x : Cm) : List Value := [.int .u8 (x.k : Nat), .int .u64 (x.n : Nat)]
theorem Cm.len (x : Cm) : x.V.length = 2 := rfl
theorem Cm.one (x : Cm) : ∀ u ∈ x.V, u.oneCell' = true := by intro u hu; simp [Cm.V] at hu; rcases hu with rfl | rfl <;> rfl
/-- Commands as cells. -/
def cms (l : List Cm) : List Value := l.flatMap Cm.V
theorem cms_snoc (l : List Cm) (x : Cm) : cms (l ++ [x]) = cms l ++ x.V := by simp [cms]
theorem cms_len (l : List Cm) : (cms l).length = l.length * 2 := by
  induction l with
  | nil => rfl
  | cons x l ih => simp only [cms, List.flatMap_cons, List.length_append, List.length_cons] at ih ⊢; rw [ih]; simp [Cm.V]; omega
theorem info124 : (Try.prog.info? 124).map (fun i => (i.zero, i.size, i.bytes)) = some (some (.agg #[.int .u8 0, .int .u64 0]), 2, 16) := by kernel_rfl
theorem clip_cm (A : Option Addr) (n c : Nat) (h : n ≤ c) (w : World) : Calls Try.prog 75 #[.slice A n c] w fun e w' => e = .returned (.slice A n n) ∧ w = w' := by
  have i0 : (0 : Int) ≤ (n : Int) := by omega
  have i1 : (n : Int) ≤ (c : Int) := by omega
  go_enter Try.func75, Try.ntmps75
  go_wp2
  go_ret
  exact ⟨rfl, rfl⟩
set_option maxRecDepth 100000 in
theorem commands_any (A : Option Addr) (n c : Nat) (w : World) : Calls Try.prog 74 #[.slice A n c] w fun e w' => e = .returned (.func (.func 82) #[] #[.pointer (some ⟨w.heap.size, 0, none⟩)]) ∧ w.alloc (.cells #[.slice A n c] 25) = w' := by
  go_enter Try.func74, Try.ntmps74
  go_wp2
  go_ret
  exact ⟨rfl, rfl⟩
theorem fresh_cm (w : World) (t : TypeId) (c : Array Value) {size n g : Nat} (hn : c.size = n * size) (hg : g = w.heap.size) : Rd (w.alloc (.cells c t)) (w.alloc (.cells c t)).heap.size size (some ⟨g, 0, none⟩) n c.toList := by subst hg; exact Rd.fresh w t c hn
theorem at_worldIn {F : Fence} {n : Nat} {P : Program} {c : Code} {Q : Exit → Act → World → Prop} {a : Act} {w : World} (h : ∀ W, W = w → c.wpIn F n P Q a W) : c.wpIn F n P Q a w := h w rfl
/-- Between two rounds of Parse. -/
def PI (xs : List Cm) (w : World) (k : Nat) (V : World) : Prop :=
  (∃ Ao co, V.cell? ⟨w.heap.size, 0, none⟩ = some (.slice Ao k co) ∧ V.frozen? ⟨w.heap.size, 0, none⟩ = false ∧ Sl V (w.heap.size + 4) 2 Ao k co (cms (xs.take k))) ∧ Frm w V fun _ => False
theorem PI.frm {xs : List Cm} {w A B : World} {k : Nat} {S : Nat → Prop} (h : PI xs w k A) (hf : Frm A B S) (hS : ∀ j, S j → j = w.heap.size + 1 ∨ j = w.heap.size + 3) : PI xs w k B := by
  obtain ⟨⟨Ao, co, h1, h2, h3⟩, h4⟩ := h
  have n0 : ¬ S w.heap.size := fun h => by have := hS _ h; omega
  refine ⟨⟨Ao, co, hf.cell h1 n0, (hf.frozen (p := ⟨w.heap.size, 0, none⟩) (World.block_lt_of_cell? A _ h1) n0).trans h2, h3.frm hf (fun j hj h => by have := hS _ h; have := (h3.ge hj).1; omega)⟩, h4.fresh hf (fun j hj => by have := hS _ hj; omega)⟩
/-- What Parse leaves. -/
def ParsePost (xs : List Cm) (w : World) (e : Ending) (w' : World) : Prop :=
  ∃ Ao, e = .returned (.slice Ao xs.length xs.length) ∧ Sl w' w.heap.size 2 Ao xs.length xs.length (cms xs) ∧ Frm w w' fun _ => False
set_option maxRecDepth 100000 in
set_option maxHeartbeats 2000000 in
theorem parse_le (A : Option Addr) (n c : Nat) (lq : List Nat) (w : World) (hn : (n : Int) ≤ 65536) (hr : Rd w w.heap.size 1 A n (by_ lq)) (hnc : n ≤ c) (hu : ∀ m ∈ lq, m ≤ 255) (hA : ∀ j, blk A j → j < w.heap.size) :
    Calls Try.prog 55 #[.slice A n c] w (ParsePost (cmds lq) w) := by
  have hlen := (Rd.by_ hr).1
  have n0 : (0 : Int) ≤ (n : Int) := by omega
  have nc : (n : Int) ≤ (c : Int) := by omega
  obtain ⟨i124, hi, hz0, hz1, hz2⟩ := info_parts info124
  refine (callsIn_wide (n := 0)).1 ?_
  refine callsIn_of_wp_marks Try.func55 rfl trivial ?_ rfl
  simp only [Try.ntmps55, List.size_toArray, List.length_cons, List.length_nil, Nat.reduceAdd, Nat.reduceSub, Array.replicate_succ, Array.replicate_zero, List.push_toArray, List.append_toArray, List.nil_append, List.cons_append]
  have HR := Lib.hid hr
  have HL := Lib.hid hlen
  have hxs := cmds_len lq
  obtain ⟨xs, hx⟩ : ∃ xs, cmds lq = xs := ⟨_, rfl⟩
  rw [hx] at hxs ⊢
  have HX := Lib.hid hx
  have HXS := Lib.hid hxs
  clear hlen hr hx hxs
  gi_wp2_with (refine ⟨trivial, rfl, ?_⟩; gi_at_call 74; refine (callsIn_wide.2 (commands_any _ _ _ _)).mono ?_; rintro e w' ⟨rfl, rfl⟩)
  refine at_worldIn ?_
  intro W hW
  have hsW : W.heap.size = w.heap.size + 2 := by rw [hW]; simp
  have hFW : Frm w W fun _ => False := by rw [hW]; exact ((Frm.refl _ _).alloc _).alloc _
  have o0 : W.cell? ⟨w.heap.size, 0, none⟩ = some (.slice none 0 0) := by rw [hW, World.cell?_alloc_past _ _ _ (by simp), World.cell?_alloc_new]; rfl
  have fo : W.frozen? ⟨w.heap.size, 0, none⟩ = false := by rw [hW]; simp
  have b0 : W.cell? ⟨w.heap.size + 1, 0, none⟩ = some (.slice A n c) := by rw [hW]; simp
  have fb : W.frozen? ⟨w.heap.size + 1, 0, none⟩ = false := by rw [hW]; simp
  have hseq := commands_seq (w.heap.size + 1) A n c lq (fun j => j = w.heap.size) W b0 fb (HR.out.new_ hFW) hnc (by omega) hu (fun j hj => by have := hA j hj; refine ⟨?_, ?_, ?_⟩ <;> omega) (by omega)
  rw [HX.out] at hseq
  clear hW b0 fb
  refine wpIn_range (gf := 82) (lb := #[.pointer (some ⟨w.heap.size + 1, 0, none⟩)]) rfl (enters_of Try.func82 (by kernel_rfl) rfl) hseq (fun j h => by have h : j = w.heap.size + 1 := h; omega) (fun j h => by have h : j = w.heap.size := h; omega) (fun _ => rfl) (PI xs w) (fun _ _ _ => False)
    (fun k A B h hf => h.frm hf (fun j hj => by have hj : j = w.heap.size + 1 ∨ j = W.heap.size + 1 := hj; omega)) (fun _ _ _ _ h _ => h.elim) ⟨⟨none, 0, o0, fo, Sl.nil _ _ _⟩, hFW⟩ ?round ?done ?stop
  case round =>
    intro k hk V hI hsV
    obtain ⟨⟨Ao, co, h1, h2, h3⟩, h4⟩ := hI
    obtain ⟨x, hx⟩ : ∃ x, xs[k] = x := ⟨_, rfl⟩
    rw [hx]
    have HXK := Lib.hid hx
    clear hx
    obtain ⟨h63, hby⟩ : k + 1 ≤ maxLen ∧ (k + 1) * 16 ≤ 140737488355328 := by have := HXS.out; have := HL.out; unfold maxLen; omega
    dsimp only [cmArgs]
    simp only [List.zip_toArray, List.zip_cons_cons, List.zip_nil_left]
    gi_wp2
    refine ⟨(Frm.refl _ _).alloc _, ?_⟩
    intro W2 hf2
    have hV2 : V.heap.size < (V.alloc (.cells #[.int .u8 (x.k : Nat), .int .u64 (x.n : Nat)] 124)).heap.size := by simp
    have n1 : ¬ (V.heap.size = W.heap.size + 1) := by omega
    have n2 : ¬ (w.heap.size = W.heap.size + 1) := by omega
    have c0 := hf2.cell (show (V.alloc (.cells #[.int .u8 (x.k : Nat), .int .u64 (x.n : Nat)] 124)).cell? ⟨V.heap.size, 0, none⟩ = some (.int .u8 (x.k : Nat)) by rw [World.cell?_alloc_new]; rfl) n1
    have c1 := hf2.cell (show (V.alloc (.cells #[.int .u8 (x.k : Nat), .int .u64 (x.n : Nat)] 124)).cell? ⟨V.heap.size, 1, none⟩ = some (.int .u64 (x.n : Nat)) by rw [World.cell?_alloc_new]; rfl) n1
    have hal : Frm V (V.alloc (.cells #[.int .u8 (x.k : Nat), .int .u64 (x.n : Nat)] 124)) (fun _ => False) := (Frm.refl _ _).alloc _
    have hlo := World.block_lt_of_cell? V _ h1
    simp only at hlo
    have o1 := hf2.cell (hal.cell h1 id) n2
    have fo1 := (hf2.frozen (p := ⟨w.heap.size, 0, none⟩) (Nat.lt_of_lt_of_le hlo hal.size) n2).trans ((hal.frozen (p := ⟨w.heap.size, 0, none⟩) hlo id).trans h2)
    have hs2 := (h3.new_ hal).frm hf2 (fun j hj h => by have := (h3.ge hj).1; omega)
    have hF2 : Frm w W2 (fun _ => False) := (h4.then_ hal).fresh hf2 (fun j hj => by omega)
    have S2 := Lib.hid hs2
    have F2 := Lib.hid hF2
    have O1 := Lib.hid o1
    have FO1 := Lib.hid fo1
    have HSW := Lib.hid hsW
    have hlo2 := World.block_lt_of_cell? W2 _ o1
    simp only at hlo2
    have hlo3 : w.heap.size + 4 ≤ W2.heap.size := by have := hf2.size; have := hal.size; omega
    have HLO3 := Lib.hid hlo3
    clear hs2 hF2 h1 h2 h3 h4 hal hlo hV2 n1 n2 hf2 hsV hseq o0 fo hsW hFW hlo3
    gi_wp2_with (gi_at_builtin; refine wpListIn_append_sl _ rfl (.tmp 11) (.tmp 13) 100 rfl (w.heap.size + 4) 124 i124 _ 2 16 Try.underlying100 hi hz0 hz1 hz2 rfl (by decide) _ _ _ _ rfl (S2.out.alloc _) _ 1 1 x.V rfl (fresh_cm _ 124 #[.int .u8 (x.k : Nat), .int .u64 (x.n : Nat)] rfl rfl) x.one h63 hby (by have := HLO3.out; simp; omega) ?_; intro A' cap' w3 hap; have h9 := hap.2.1; have hn9 : ¬ blk Ao w.heap.size := fun h => absurd (S2.out.ge h).1 (by omega); have o3 := h9.cell (((Frm.refl W2 fun _ => False).alloc (.cells #[.int .u8 (x.k : Nat), .int .u64 (x.n : Nat)] 124)).cell O1.out id) hn9; have fo3 := (h9.frozen (p := ⟨w.heap.size, 0, none⟩) (by simp; omega) hn9).trans ((((Frm.refl W2 fun _ => False).alloc (.cells #[.int .u8 (x.k : Nat), .int .u64 (x.n : Nat)] 124)).frozen (p := ⟨w.heap.size, 0, none⟩) hlo2 id).trans FO1.out); have HAP := Lib.hid hap; clear hap h9 hn9)
    obtain ⟨hs3, hf3, hA3⟩ := HAP.out
    have hset : Frm w3 (w3.setCell ⟨w.heap.size, 0, none⟩ (.slice A' (k + 1) cap')) (fun j => j = w.heap.size) := (Frm.refl w3 (fun j => j = w.heap.size)).setCell (p := ⟨w.heap.size, 0, none⟩) (fun _ => rfl) _
    have hT : Frm W2 (w3.setCell ⟨w.heap.size, 0, none⟩ (.slice A' (k + 1) cap')) (fun j => j = w.heap.size ∨ W.heap.size + 2 ≤ j) := by
      have hsW := HSW.out
      refine ((((Frm.refl W2 (fun j => j = w.heap.size ∨ W.heap.size + 2 ≤ j)).alloc _).then_ (hf3.mono fun j _ hj => .inr ?_)).then_ (hset.mono fun j _ hj => .inl hj))
      have := (S2.out.ge hj).1
      omega
    refine ⟨hT, ⟨A', cap', World.cell?_setCell_same _ _ _ o3, by rw [World.frozen?_setCell]; exact fo3, ?_⟩, F2.out.fresh hT (fun j hj => by have := HSW.out; omega)⟩
    have hs4 := hs3.frm hset (fun j hj h => by have := (hs3.ge hj).1; omega)
    rw [List.take_succ_eq_append_getElem hk, cms_snoc, HXK.out]
    exact hs4
  case done =>
    intro V hI hD
    obtain ⟨⟨Ao, co, h1, h2, h3⟩, h4⟩ := hI
    have hle := h3.le
    have S3 := Lib.hid h3
    have F3 := Lib.hid h4
    have HD := Lib.hid hD
    have h2' := h2
    clear h3 h4 hseq o0 fo hFW hD
    have hlo := World.block_lt_of_cell? V _ h1
    simp only at hlo
    have HSW := Lib.hid hsW
    gi_wp2_with (refine ⟨trivial, rfl, ?_⟩; gi_at_call 75; refine (callsIn_wide.2 (clip_cm _ _ _ hle _)).mono ?_; rintro e w' ⟨rfl, rfl⟩)
    have hset : Frm V (V.setCell ⟨w.heap.size, 0, none⟩ (.slice Ao xs.length xs.length)) (fun j => j = w.heap.size) := (Frm.refl V (fun j => j = w.heap.size)).setCell (p := ⟨w.heap.size, 0, none⟩) (fun _ => rfl) _
    have hD2 := (hset.block _ (Array.getElem?_eq_some_iff.1 HD.out).1 (by have := HSW.out; omega)).trans HD.out
    rw [HSW.out] at hD2
    have hput := putObj_frm (V.setCell ⟨w.heap.size, 0, none⟩ (.slice Ao xs.length xs.length)) (w.heap.size + 2) (.deferred none)
    have hcell := hput.cell (World.cell?_setCell_same V ⟨w.heap.size, 0, none⟩ (.slice Ao xs.length xs.length) h1) (by simp)
    refine ⟨by simp, .inl ⟨_, _, rfl, run_takeDeferred hD2, ?_⟩⟩
    refine ⟨.slice Ao xs.length xs.length, by simp [results, Try.results55, go_sem, hcell], Ao, rfl, ?_, (F3.out.fresh hset (fun j hj => by omega)).fresh hput (fun j hj => by omega)⟩
    have hs := ((S3.out.clip (Nat.le_refl _) hle).frm hset (fun j hj h => by have := (S3.out.ge hj).1; omega)).frm hput (fun j hj h => by have := (S3.out.ge hj).1; omega)
    rw [List.take_length] at hs
    exact hs.mono (by omega)
  case stop =>
    intro c k W _ h _
    exact h.elim
set_option maxRecDepth 100000 in
set_option maxHeartbeats 2000000 in
theorem parse_gt (A : Option Addr) (n c : Nat) (lq : List Nat) (w : World) (hn : 65536 < (n : Int)) (hn2 : (n : Int) ≤ 100000) (hr : Rd w w.heap.size 1 A 65536 (by_ lq)) (hnc : 65536 ≤ c) (hu : ∀ m ∈ lq, m ≤ 255) (hA : ∀ j, blk A j → j < w.heap.size) :
    Calls Try.prog 55 #[.slice A n c] w (ParsePost (cmds lq) w) := by
  have hlen := (Rd.by_ hr).1
  have n0 : (0 : Int) ≤ (n : Int) := by omega
  have nc : (65536 : Int) ≤ (c : Int) := by omega
  obtain ⟨i124, hi, hz0, hz1, hz2⟩ := info_parts info124
  refine (callsIn_wide (n := 0)).1 ?_
  refine callsIn_of_wp_marks Try.func55 rfl trivial ?_ rfl
  simp only [Try.ntmps55, List.size_toArray, List.length_cons, List.length_nil, Nat.reduceAdd, Nat.reduceSub, Array.replicate_succ, Array.replicate_zero, List.push_toArray, List.append_toArray, List.nil_append, List.cons_append]
  have HR := Lib.hid hr
  have HL := Lib.hid hlen
  have hxs := cmds_len lq
  obtain ⟨xs, hx⟩ : ∃ xs, cmds lq = xs := ⟨_, rfl⟩
  rw [hx] at hxs ⊢
  have HX := Lib.hid hx
  have HXS := Lib.hid hxs
  clear hlen hr hx hxs
  gi_wp2_with (refine ⟨trivial, rfl, ?_⟩; gi_at_call 74; refine (callsIn_wide.2 (commands_any _ _ _ _)).mono ?_; rintro e w' ⟨rfl, rfl⟩)
  refine at_worldIn ?_
  intro W hW
  have hsW : W.heap.size = w.heap.size + 2 := by rw [hW]; simp
  have hFW : Frm w W fun _ => False := by rw [hW]; exact ((Frm.refl _ _).alloc _).alloc _
  have o0 : W.cell? ⟨w.heap.size, 0, none⟩ = some (.slice none 0 0) := by rw [hW, World.cell?_alloc_past _ _ _ (by simp), World.cell?_alloc_new]; rfl
  have fo : W.frozen? ⟨w.heap.size, 0, none⟩ = false := by rw [hW]; simp
  have b0 : W.cell? ⟨w.heap.size + 1, 0, none⟩ = some (.slice A 65536 c) := by rw [hW]; simp
  have fb : W.frozen? ⟨w.heap.size + 1, 0, none⟩ = false := by rw [hW]; simp
  have hseq := commands_seq (w.heap.size + 1) A 65536 c lq (fun j => j = w.heap.size) W b0 fb (HR.out.new_ hFW) hnc (by omega) hu (fun j hj => by have := hA j hj; refine ⟨?_, ?_, ?_⟩ <;> omega) (by omega)
  rw [HX.out] at hseq
  clear hW b0 fb
  refine wpIn_range (gf := 82) (lb := #[.pointer (some ⟨w.heap.size + 1, 0, none⟩)]) rfl (enters_of Try.func82 (by kernel_rfl) rfl) hseq (fun j h => by have h : j = w.heap.size + 1 := h; omega) (fun j h => by have h : j = w.heap.size := h; omega) (fun _ => rfl) (PI xs w) (fun _ _ _ => False)
    (fun k A B h hf => h.frm hf (fun j hj => by have hj : j = w.heap.size + 1 ∨ j = W.heap.size + 1 := hj; omega)) (fun _ _ _ _ h _ => h.elim) ⟨⟨none, 0, o0, fo, Sl.nil _ _ _⟩, hFW⟩ ?round ?done ?stop
  case round =>
    intro k hk V hI hsV
    obtain ⟨⟨Ao, co, h1, h2, h3⟩, h4⟩ := hI
    obtain ⟨x, hx⟩ : ∃ x, xs[k] = x := ⟨_, rfl⟩
    rw [hx]
    have HXK := Lib.hid hx
    clear hx
    obtain ⟨h63, hby⟩ : k + 1 ≤ maxLen ∧ (k + 1) * 16 ≤ 140737488355328 := by have := HXS.out; have := HL.out; unfold maxLen; omega
    dsimp only [cmArgs]
    simp only [List.zip_toArray, List.zip_cons_cons, List.zip_nil_left]
    gi_wp2
    refine ⟨(Frm.refl _ _).alloc _, ?_⟩
    intro W2 hf2
    have hV2 : V.heap.size < (V.alloc (.cells #[.int .u8 (x.k : Nat), .int .u64 (x.n : Nat)] 124)).heap.size := by simp
    have n1 : ¬ (V.heap.size = W.heap.size + 1) := by omega
    have n2 : ¬ (w.heap.size = W.heap.size + 1) := by omega
    have c0 := hf2.cell (show (V.alloc (.cells #[.int .u8 (x.k : Nat), .int .u64 (x.n : Nat)] 124)).cell? ⟨V.heap.size, 0, none⟩ = some (.int .u8 (x.k : Nat)) by rw [World.cell?_alloc_new]; rfl) n1
    have c1 := hf2.cell (show (V.alloc (.cells #[.int .u8 (x.k : Nat), .int .u64 (x.n : Nat)] 124)).cell? ⟨V.heap.size, 1, none⟩ = some (.int .u64 (x.n : Nat)) by rw [World.cell?_alloc_new]; rfl) n1
    have hal : Frm V (V.alloc (.cells #[.int .u8 (x.k : Nat), .int .u64 (x.n : Nat)] 124)) (fun _ => False) := (Frm.refl _ _).alloc _
    have hlo := World.block_lt_of_cell? V _ h1
    simp only at hlo
    have o1 := hf2.cell (hal.cell h1 id) n2
    have fo1 := (hf2.frozen (p := ⟨w.heap.size, 0, none⟩) (Nat.lt_of_lt_of_le hlo hal.size) n2).trans ((hal.frozen (p := ⟨w.heap.size, 0, none⟩) hlo id).trans h2)
    have hs2 := (h3.new_ hal).frm hf2 (fun j hj h => by have := (h3.ge hj).1; omega)
    have hF2 : Frm w W2 (fun _ => False) := (h4.then_ hal).fresh hf2 (fun j hj => by omega)
    have S2 := Lib.hid hs2
    have F2 := Lib.hid hF2
    have O1 := Lib.hid o1
    have FO1 := Lib.hid fo1
    have HSW := Lib.hid hsW
    have hlo2 := World.block_lt_of_cell? W2 _ o1
    simp only at hlo2
    have hlo3 : w.heap.size + 4 ≤ W2.heap.size := by have := hf2.size; have := hal.size; omega
    have HLO3 := Lib.hid hlo3
    clear hs2 hF2 h1 h2 h3 h4 hal hlo hV2 n1 n2 hf2 hsV hseq o0 fo hsW hFW hlo3
    gi_wp2_with (gi_at_builtin; refine wpListIn_append_sl _ rfl (.tmp 11) (.tmp 13) 100 rfl (w.heap.size + 4) 124 i124 _ 2 16 Try.underlying100 hi hz0 hz1 hz2 rfl (by decide) _ _ _ _ rfl (S2.out.alloc _) _ 1 1 x.V rfl (fresh_cm _ 124 #[.int .u8 (x.k : Nat), .int .u64 (x.n : Nat)] rfl rfl) x.one h63 hby (by have := HLO3.out; simp; omega) ?_; intro A' cap' w3 hap; have h9 := hap.2.1; have hn9 : ¬ blk Ao w.heap.size := fun h => absurd (S2.out.ge h).1 (by omega); have o3 := h9.cell (((Frm.refl W2 fun _ => False).alloc (.cells #[.int .u8 (x.k : Nat), .int .u64 (x.n : Nat)] 124)).cell O1.out id) hn9; have fo3 := (h9.frozen (p := ⟨w.heap.size, 0, none⟩) (by simp; omega) hn9).trans ((((Frm.refl W2 fun _ => False).alloc (.cells #[.int .u8 (x.k : Nat), .int .u64 (x.n : Nat)] 124)).frozen (p := ⟨w.heap.size, 0, none⟩) hlo2 id).trans FO1.out); have HAP := Lib.hid hap; clear hap h9 hn9)
    obtain ⟨hs3, hf3, hA3⟩ := HAP.out
    have hset : Frm w3 (w3.setCell ⟨w.heap.size, 0, none⟩ (.slice A' (k + 1) cap')) (fun j => j = w.heap.size) := (Frm.refl w3 (fun j => j = w.heap.size)).setCell (p := ⟨w.heap.size, 0, none⟩) (fun _ => rfl) _
    have hT : Frm W2 (w3.setCell ⟨w.heap.size, 0, none⟩ (.slice A' (k + 1) cap')) (fun j => j = w.heap.size ∨ W.heap.size + 2 ≤ j) := by
      have hsW := HSW.out
      refine ((((Frm.refl W2 (fun j => j = w.heap.size ∨ W.heap.size + 2 ≤ j)).alloc _).then_ (hf3.mono fun j _ hj => .inr ?_)).then_ (hset.mono fun j _ hj => .inl hj))
      have := (S2.out.ge hj).1
      omega
    refine ⟨hT, ⟨A', cap', World.cell?_setCell_same _ _ _ o3, by rw [World.frozen?_setCell]; exact fo3, ?_⟩, F2.out.fresh hT (fun j hj => by have := HSW.out; omega)⟩
    have hs4 := hs3.frm hset (fun j hj h => by have := (hs3.ge hj).1; omega)
    rw [List.take_succ_eq_append_getElem hk, cms_snoc, HXK.out]
    exact hs4
  case done =>
    intro V hI hD
    obtain ⟨⟨Ao, co, h1, h2, h3⟩, h4⟩ := hI
    have hle := h3.le
    have S3 := Lib.hid h3
    have F3 := Lib.hid h4
    have HD := Lib.hid hD
    have h2' := h2
    clear h3 h4 hseq o0 fo hFW hD
    have hlo := World.block_lt_of_cell? V _ h1
    simp only at hlo
    have HSW := Lib.hid hsW
    gi_wp2_with (refine ⟨trivial, rfl, ?_⟩; gi_at_call 75; refine (callsIn_wide.2 (clip_cm _ _ _ hle _)).mono ?_; rintro e w' ⟨rfl, rfl⟩)
    have hset : Frm V (V.setCell ⟨w.heap.size, 0, none⟩ (.slice Ao xs.length xs.length)) (fun j => j = w.heap.size) := (Frm.refl V (fun j => j = w.heap.size)).setCell (p := ⟨w.heap.size, 0, none⟩) (fun _ => rfl) _
    have hD2 := (hset.block _ (Array.getElem?_eq_some_iff.1 HD.out).1 (by have := HSW.out; omega)).trans HD.out
    rw [HSW.out] at hD2
    have hput := putObj_frm (V.setCell ⟨w.heap.size, 0, none⟩ (.slice Ao xs.length xs.length)) (w.heap.size + 2) (.deferred none)
    have hcell := hput.cell (World.cell?_setCell_same V ⟨w.heap.size, 0, none⟩ (.slice Ao xs.length xs.length) h1) (by simp)
    refine ⟨by simp, .inl ⟨_, _, rfl, run_takeDeferred hD2, ?_⟩⟩
    refine ⟨.slice Ao xs.length xs.length, by simp [results, Try.results55, go_sem, hcell], Ao, rfl, ?_, (F3.out.fresh hset (fun j hj => by omega)).fresh hput (fun j hj => by omega)⟩
    have hs := ((S3.out.clip (Nat.le_refl _) hle).frm hset (fun j hj h => by have := (S3.out.ge hj).1; omega)).frm hput (fun j hj h => by have := (S3.out.ge hj).1; omega)
    rw [List.take_length] at hs
    exact hs.mono (by omega)
  case stop =>
    intro c k W _ h _
    exact h.elim
theorem by_take (l : List Nat) (k : Nat) : by_ (l.take k) = (by_ l).take k := List.map_take
/-- Parse. -/
theorem parse_any (A : Option Addr) (n c : Nat) (l : List Nat) (w : World) (hr : Rd w w.heap.size 1 A n (by_ l)) (hnc : n ≤ c) (hn : (n : Int) ≤ 100000) (hu : ∀ m ∈ l, m ≤ 255) (hA : ∀ j, blk A j → j < w.heap.size) :
    Calls Try.prog 55 #[.slice A n c] w (ParsePost (cmds (l.take 65536)) w) := by
  have hlen := (Rd.by_ hr).1
  by_cases h : (n : Int) ≤ 65536
  · rw [List.take_of_length_le (by omega)]
    exact parse_le A n c l w h hr hnc hu hA
  · have hs := hr.short (show 65536 ≤ n by omega)
    rw [Nat.mul_one, ← by_take] at hs
    exact parse_gt A n c (l.take 65536) w (by omega) hn hs (by omega) (fun m hm => hu m (List.mem_of_mem_take hm)) hA
end Go.Proofs.Ytaenclbbiodhfaa
