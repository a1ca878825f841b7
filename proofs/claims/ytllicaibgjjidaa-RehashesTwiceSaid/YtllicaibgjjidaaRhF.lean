import Derived.Test.YtllicaibgjjidaaRhE
namespace Go.Proofs.Ytllicaibgjjidaa
open Go.RowKit
attribute [local go_sem] Oper.semAt_some

theorem rehash_out (A : Option Addr) (n c : Nat) (b : Int) (h : tbl b = false) (w : World) : Calls Try.prog 13 #[.slice A n c, .int .i64 b] w fun e w' => e = .returned (.slice none 0 0) ∧ Frm w w' fun _ => False := by
  have HSZ : ∀ V, Calls Try.prog 32 #[.int .i64 b] V fun e w' => e = .returned (.int .i64 0) ∧ V = w' := fun V => by
    have := size_any b V
    unfold sz at this
    rw [h] at this
    exact this
  have HSZ := Lib.hid HSZ
  refine (callsIn_wide (n := 0)).1 ?_
  refine callsIn_of_wp_marks Try.func13 rfl trivial ?_ rfl
  simp only [Try.ntmps13, List.size_toArray, List.length_cons, List.length_nil, Nat.reduceAdd, Nat.reduceSub, Array.replicate_succ, Array.replicate_zero, List.push_toArray, List.append_toArray, List.nil_append, List.cons_append]
  refine wpIn_wide.2 ?_
  go_wp2_with (go_at_call 32; refine (HSZ.out _).mono ?_; rintro e w' ⟨rfl, rfl⟩)
  refine ⟨.slice none 0 0, by simp [results, Try.results13, go_sem], rfl, (Frm.refl _ _).alloc _⟩
/-- Is each where it hashes to? -/
def okp (nb : Nat) (p : Nat × En) : Bool := hk nb p.2 == p.1
/-- Are queues placed? -/
def plc (b : Int) (qs : List (List En)) : Bool := tbl b && (qs.length == sz b) && (flat qs).all (okp b.toNat)
/-- Between two rounds of Placed. -/
def PLI (nb b3 b4 : Nat) (L : List (Nat × En)) (w0 : World) (k : Nat) (V : World) : Prop :=
  V.cell? ⟨b3, 0, none⟩ = some (.int .i64 (nb : Nat)) ∧ V.cell? ⟨b4, 0, none⟩ = some (.bool false) ∧ V.frozen? ⟨b4, 0, none⟩ = false ∧ (L.take k).all (okp nb) = true ∧ Frm w0 V fun _ => False
def PLX (nb b4 : Nat) (L : List (Nat × En)) (w0 : World) (c : Code) (_ : Nat) (V : World) : Prop :=
  c = .ret ∧ V.cell? ⟨b4, 0, none⟩ = some (.bool false) ∧ L.all (okp nb) = false ∧ Frm w0 V fun _ => False
theorem PLI.frm {nb b3 b4 k : Nat} {L : List (Nat × En)} {w0 A B : World} {S : Nat → Prop} (h : PLI nb b3 b4 L w0 k A) (hf : Frm A B S) (h3 : ¬ S b3) (h4 : ¬ S b4) (h0 : ∀ j, j < w0.heap.size → ¬ S j) : PLI nb b3 b4 L w0 k B := by
  obtain ⟨c3, c4, f4, hl, hF⟩ := h
  exact ⟨hf.cell c3 h3, hf.cell c4 h4, (hf.frozen (p := ⟨b4, 0, none⟩) (World.block_lt_of_cell? A _ c4) h4).trans f4, hl, hF.trans hf fun j hj hs => h0 j hj hs⟩
theorem PLX.frm {nb b4 k : Nat} {c : Code} {L : List (Nat × En)} {w0 A B : World} {S : Nat → Prop} (h : PLX nb b4 L w0 c k A) (hf : Frm A B S) (h4 : ¬ S b4) (h0 : ∀ j, j < w0.heap.size → ¬ S j) : PLX nb b4 L w0 c k B := by
  obtain ⟨hc, c4, hl, hF⟩ := h
  exact ⟨hc, hf.cell c4 h4, hl, hF.trans hf fun j hj hs => h0 j hj hs⟩
set_option maxRecDepth 100000 in
set_option maxHeartbeats 2000000 in
theorem placed_in (A : Option Addr) (n c nb : Nat) (hs : List Hd) (qs : List (List En)) (w : World) (h2 : 2 ≤ nb) (h8 : nb ≤ 8) (hr : RdD w w.heap.size A n hs qs) (hn : n = 2 ^ nb) (hl : ∀ q ∈ qs, q.length ≤ 1000) (hok : ∀ q ∈ qs, ∀ x ∈ q, EnOk x) :
    Calls Try.prog 16 #[.slice A n c, .int .i64 nb] w fun e w' => e = .returned (.bool ((flat qs).all (okp nb))) ∧ Frm w w' fun _ => False := by
  have HSZ : ∀ V, Calls Try.prog 32 #[.int .i64 nb] V fun e w' => e = .returned (.int .i64 (n : Nat)) ∧ V = w' := fun V => by rw [hn, ← sz_pow nb h2 h8]; exact size_any _ _
  have hz4 : 4 ≤ n := by rw [hn]; exact Nat.pow_le_pow_right (n := 2) (by decide) h2
  have hz256 : n ≤ 256 := by rw [hn]; exact Nat.pow_le_pow_right (n := 2) (by decide) h8
  have HSZ := Lib.hid HSZ
  have z0 : ((n : Int) == 0) = false := by simp; omega
  have HR := Lib.hid hr
  obtain ⟨L, hL⟩ : ∃ L, flat qs = L := ⟨_, rfl⟩
  rw [hL]
  clear hr hn
  refine (callsIn_wide (n := 0)).1 ?_
  refine callsIn_of_wp_marks Try.func16 rfl trivial ?_ rfl
  simp only [Try.ntmps16, List.size_toArray, List.length_cons, List.length_nil, Nat.reduceAdd, Nat.reduceSub, Array.replicate_succ, Array.replicate_zero, List.push_toArray, List.append_toArray, List.nil_append, List.cons_append]
  refine wpIn_wide.2 ?_
  go_wp2_with (first
    | (go_at_call 32; refine (HSZ.out _).mono ?_; rintro e w' ⟨rfl, rfl⟩)
    | (go_at_call 33; refine (entries_any _ _ _ _).mono ?_; rintro e w' ⟨rfl, rfl⟩))
  refine at_world' ?_
  intro W hW
  have hsW : W.heap.size = w.heap.size + 3 := by rw [hW]; simp
  have hFW : Frm w W fun _ => False := by rw [hW]; exact (((Frm.refl _ _).alloc _).alloc _).alloc _
  have last := (Frm.refl ((w.alloc (.cells #[.int .i64 nb] 3)).alloc (.cells #[.bool false] 4)) fun _ => False).alloc (.cells #[.slice A n c] 22)
  have m4 : ((w.alloc (.cells #[.int .i64 nb] 3)).alloc (.cells #[.bool false] 4)).cell? ⟨w.heap.size + 1, 0, none⟩ = some (.bool false) := by simp
  have b3 : W.cell? ⟨w.heap.size, 0, none⟩ = some (.int .i64 nb) := by
    rw [hW]
    refine last.cell (p := ⟨w.heap.size, 0, none⟩) ?_ id
    refine ((Frm.refl (w.alloc (.cells #[.int .i64 nb] 3)) fun _ => False).alloc _).cell (p := ⟨w.heap.size, 0, none⟩) ?_ id
    rw [World.cell?_alloc_new]
    rfl
  have b4 : W.cell? ⟨w.heap.size + 1, 0, none⟩ = some (.bool false) := by
    rw [hW]
    exact last.cell (p := ⟨w.heap.size + 1, 0, none⟩) m4 id
  have f4 : W.frozen? ⟨w.heap.size + 1, 0, none⟩ = false := by
    rw [hW]
    refine (last.frozen (p := ⟨w.heap.size + 1, 0, none⟩) (World.block_lt_of_cell? _ _ m4) id).trans ?_
    simp
  have bb : W.cell? ⟨w.heap.size + 1 + 1, 0, none⟩ = some (.slice A n c) := by
    rw [hW]
    have := World.cell?_alloc_new ((w.alloc (.cells #[.int .i64 nb] 3)).alloc (.cells #[.bool false] 4)) #[.slice A n c] 22 0
    rw [World.size_alloc, World.size_alloc] at this
    exact this
  have hseq := entries_seq (w.heap.size + 1 + 1) w.heap.size A n c hs qs (fun j => j = w.heap.size + 1) W bb (HR.out.below (hFW.below (fun _ _ => id) (Nat.le_refl _))) hFW.size (fun j hj h => by omega) (by omega) (fun q hq => by have := hl q hq; omega)
  have hLok : ∀ p ∈ L, EnOk p.2 := by
    intro p hp
    have h1 : p.2 ∈ qs.flatten := by rw [← flat_snd, hL]; exact List.mem_map.2 ⟨p, hp, rfl⟩
    obtain ⟨q, hq, h2⟩ := List.mem_flatten.1 h1
    exact hok q hq p.2 h2
  rw [hL] at hseq
  clear hW bb last
  refine wpIn_wide.1 (wpIn_range (gf := 46) (lb := #[.pointer (some ⟨w.heap.size + 1 + 1, 0, none⟩)]) rfl (enters_of Try.func46 (by kernel_rfl) rfl) hseq (fun j h => h.elim) (fun j h => by have h : j = w.heap.size + 1 := h; omega) (fun _ => rfl) (PLI nb w.heap.size (w.heap.size + 1) L w) (PLX nb (w.heap.size + 1) L w)
    (fun k X Y h hf => h.frm hf (by simp; omega) (by simp; omega) (fun j hj => by simp; omega)) (fun c k X Y h hf => h.frm hf (by simp; omega) (fun j hj => by simp; omega)) ⟨b3, b4, f4, by simp, hFW⟩ ?round ?done ?stop)
  case round =>
    intro k hkl V hI hsV
    obtain ⟨c3, c4, g4, hall, hF⟩ := hI
    obtain ⟨⟨i, x⟩, hx⟩ : ∃ p, L[k] = p := ⟨_, rfl⟩
    rw [hx]
    have hxok : EnOk x := hLok (i, x) (by rw [← hx]; exact List.getElem_mem hkl)
    have htk : L.take (k + 1) = L.take k ++ [(i, x)] := by rw [List.take_succ_eq_append_getElem hkl, hx]
    have HTK := Lib.hid htk
    have HX := Lib.hid hx
    have HALL := Lib.hid hall
    have hi256 : ((i : Nat) : Int) = ((i : Nat) : Int) := rfl
    clear hx htk hall hi256
    dsimp only [enArgs]
    simp only [List.zip_toArray, List.zip_cons_cons, List.zip_nil_left]
    gi_wp2
    refine ⟨(Frm.refl _ _).alloc _, ?_⟩
    intro W2 hf2
    have n1 : ¬ (V.heap.size = W.heap.size + 1) := by omega
    have hal : Frm V (V.alloc (.cells #[.int .i64 x.t, .int .u32 x.k, .int .u64 x.tok] 39)) (fun _ => False) := (Frm.refl _ _).alloc _
    have x1 := hf2.cell (show (V.alloc (.cells #[.int .i64 x.t, .int .u32 x.k, .int .u64 x.tok] 39)).cell? ⟨V.heap.size, 1, none⟩ = some (.int .u32 x.k) by rw [World.cell?_alloc_new]; rfl) n1
    have d3 := hf2.cell (hal.cell c3 id) (show ¬ (w.heap.size = W.heap.size + 1) by omega)
    have d4 := hf2.cell (hal.cell c4 id) (show ¬ (w.heap.size + 1 = W.heap.size + 1) by omega)
    have e4 := (hf2.frozen (p := ⟨w.heap.size + 1, 0, none⟩) (World.block_lt_of_cell? _ _ (hal.cell c4 id)) (show ¬ (w.heap.size + 1 = W.heap.size + 1) by omega)).trans ((hal.frozen (p := ⟨w.heap.size + 1, 0, none⟩) (World.block_lt_of_cell? _ _ c4) id).trans g4)
    have hF2 : Frm w W2 fun _ => False := (hF.then_ hal).trans hf2 (fun j hj h => by omega)
    obtain ⟨b, hb⟩ : ∃ b, hk nb x = b := ⟨_, rfl⟩
    have HASH := Lib.hid (fun V => hash_en x hxok nb h2 h8 V)
    rw [hb] at HASH
    have HB := Lib.hid hb
    have F2 := Lib.hid hF2
    have HSW := Lib.hid hsW
    have HSV := Lib.hid hsV
    have b0 : (0 : Int) ≤ (b : Int) := by omega
    clear hF2 hf2 hal c3 c4 g4 hF hseq hFW b3 b4 f4 hb n1 hsW hsV
    by_cases hbi : b = i
    · have q0 : ((b : Int) != (i : Int)) = false := by simp; omega
      gi_wp2_with (refine ⟨trivial, rfl, ?_⟩; gi_at_call 20; refine (callsIn_wide.2 (HASH.out _)).mono ?_; rintro e w' ⟨rfl, rfl⟩)
      exact ⟨Frm.refl _ _, d3, d4, e4, by rw [HTK.out, List.all_append, HALL.out]; simp [okp, HB.out, hbi], F2.out⟩
    · have q0 : ((b : Int) != (i : Int)) = true := by simp; omega
      gi_wp2_with (refine ⟨trivial, rfl, ?_⟩; gi_at_call 20; refine (callsIn_wide.2 (HASH.out _)).mono ?_; rintro e w' ⟨rfl, rfl⟩)
      have hset : Frm W2 (W2.setCell ⟨w.heap.size + 1, 0, none⟩ (.bool false)) (fun j => j = w.heap.size + 1) := (Frm.refl W2 (fun j => j = w.heap.size + 1)).setCell (p := ⟨w.heap.size + 1, 0, none⟩) (fun _ => rfl) _
      refine ⟨hset.mono fun j _ hj => .inl hj, rfl, World.cell?_setCell_same _ _ _ d4, ?_, F2.out.trans hset (fun j hj h => by omega)⟩
      rw [← Bool.not_eq_true, List.all_eq_true]
      intro hc
      have := hc L[k] (List.getElem_mem hkl)
      rw [HX.out] at this
      simp [okp, HB.out, hbi] at this
  case done =>
    intro V hI hD
    obtain ⟨c3, c4, g4, hall, hF⟩ := hI
    rw [List.take_length] at hall
    have HSW := Lib.hid hsW
    have HF := Lib.hid hF
    have HD := Lib.hid hD
    have HALL := Lib.hid hall
    clear hseq hFW b3 b4 f4 hsW hF hD hall
    go_wp2_with fail
    have hset : Frm V (V.setCell ⟨w.heap.size + 1, 0, none⟩ (.bool true)) (fun j => j = w.heap.size + 1) := (Frm.refl V (fun j => j = w.heap.size + 1)).setCell (p := ⟨w.heap.size + 1, 0, none⟩) (fun _ => rfl) _
    have hD2 := (hset.block _ (Array.getElem?_eq_some_iff.1 HD.out).1 (by have := HSW.out; omega)).trans HD.out
    have hput := putObj_frm (V.setCell ⟨w.heap.size + 1, 0, none⟩ (.bool true)) W.heap.size (.deferred none)
    have hcell := hput.cell (World.cell?_setCell_same V ⟨w.heap.size + 1, 0, none⟩ (.bool true) c4) (show ¬ (w.heap.size + 1 = W.heap.size) by have := HSW.out; omega)
    refine ⟨by simp, .inl ⟨_, _, rfl, run_takeDeferred hD2, ?_⟩⟩
    exact ⟨.bool true, by simp [results, Try.results16, go_sem, hcell], by rw [HALL.out], (HF.out.trans hset (fun j hj h => by omega)).trans hput (fun j hj h => by have := HSW.out; omega)⟩
  case stop =>
    intro c k V _ h hD
    obtain ⟨rfl, c4, hall, hF⟩ := h
    have hput := putObj_frm V W.heap.size (.deferred none)
    have hcell := hput.cell c4 (show ¬ (w.heap.size + 1 = W.heap.size) by omega)
    refine wpIn_ret ?_
    refine ⟨by simp, .inl ⟨_, _, rfl, run_takeDeferred hD, ?_⟩⟩
    exact ⟨.bool false, by simp [results, Try.results16, go_sem, hcell], by rw [hall], hF.trans hput (fun j hj h => by omega)⟩
set_option maxRecDepth 100000 in
set_option maxHeartbeats 2000000 in
theorem placed_no (A : Option Addr) (n c z : Nat) (b : Int) (w : World) (hs : sz b = z) (h : z = 0 ∨ n ≠ z) :
    Calls Try.prog 16 #[.slice A n c, .int .i64 b] w fun e w' => e = .returned (.bool false) ∧ Frm w w' fun _ => False := by
  have HSZ := Lib.hid (fun V => by have := size_any b V; rw [hs] at this; exact this)
  clear hs
  have z0 : (0 : Int) ≤ (z : Int) := by omega
  by_cases hz : z = 0
  · subst hz
    clear h
    refine (callsIn_wide (n := 0)).1 ?_
    refine callsIn_of_wp_marks Try.func16 rfl trivial ?_ rfl
    simp only [Try.ntmps16, List.size_toArray, List.length_cons, List.length_nil, Nat.reduceAdd, Nat.reduceSub, Array.replicate_succ, Array.replicate_zero, List.push_toArray, List.append_toArray, List.nil_append, List.cons_append]
    refine wpIn_wide.2 ?_
    go_wp2_with (go_at_call 32; refine (HSZ.out _).mono ?_; rintro e w' ⟨rfl, rfl⟩)
    refine ⟨.bool false, by simp [results, Try.results16, go_sem], rfl, ((Frm.refl _ _).alloc _).alloc _⟩
  · have hne : n ≠ z := h.resolve_left hz
    have e1 : ((z : Int) == 0) = false := by simp; omega
    have e2 : ((n : Int) != (z : Int)) = true := by simp; omega
    clear h hz hne
    refine (callsIn_wide (n := 0)).1 ?_
    refine callsIn_of_wp_marks Try.func16 rfl trivial ?_ rfl
    simp only [Try.ntmps16, List.size_toArray, List.length_cons, List.length_nil, Nat.reduceAdd, Nat.reduceSub, Array.replicate_succ, Array.replicate_zero, List.push_toArray, List.append_toArray, List.nil_append, List.cons_append]
    refine wpIn_wide.2 ?_
    go_wp2_with (go_at_call 32; refine (HSZ.out _).mono ?_; rintro e w' ⟨rfl, rfl⟩)
    refine ⟨.bool false, by simp [results, Try.results16, go_sem], rfl, ((Frm.refl _ _).alloc _).alloc _⟩
theorem placed_any (A : Option Addr) (n c : Nat) (b : Int) (hs : List Hd) (qs : List (List En)) (w : World) (hr : RdD w w.heap.size A n hs qs) (hl : ∀ q ∈ qs, q.length ≤ 1000) (hok : ∀ q ∈ qs, ∀ x ∈ q, EnOk x) :
    Calls Try.prog 16 #[.slice A n c, .int .i64 b] w fun e w' => e = .returned (.bool (plc b qs)) ∧ Frm w w' fun _ => False := by
  cases hb : tbl b with
  | false =>
    have e : plc b qs = false := by unfold plc; rw [hb]; rfl
    rw [e]
    refine placed_no A n c 0 b w (by unfold sz; rw [hb]; rfl) (.inl rfl)
  | true =>
    have h1 := (tbl_iff b).1 hb
    have hz : sz b = 2 ^ b.toNat := by unfold sz; rw [hb]; rfl
    by_cases hn : n = 2 ^ b.toNat
    · have := placed_in A n c b.toNat hs qs w (by omega) (by omega) hr hn hl hok
      rw [Int.toNat_of_nonneg (by omega)] at this
      have e : plc b qs = (flat qs).all (okp b.toNat) := by unfold plc; rw [hb, hz, hr.lenq, hn]; simp
      rw [e]
      exact this
    · have e : plc b qs = false := by unfold plc; rw [hz, hr.lenq]; simp [hn]
      rw [e]
      exact placed_no A n c _ b w hz (.inr hn)
end Go.Proofs.Ytllicaibgjjidaa
