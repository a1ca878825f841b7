import Derived.Test.YtaenclbbiodhfaaScF
namespace Go.Proofs.Ytaenclbbiodhfaa.ScriptsParse
open Go.RowKit Go.Proofs.Ytaenclbbiodhfaa

def PPost (lx : Nat) (xs : List Cm) (w : World) (e : Ending) (w' : World) : Prop :=
  ∃ Ao, e = .returned (.slice Ao lx lx) ∧ Sl w' w.heap.size 2 Ao lx lx (cms xs) ∧ Frm w w' fun _ => False
def RPost (lx : Nat) (xs : List Cm) (w : World) (e : Ending) (w' : World) : Prop :=
  ∃ Ao co, e = .returned (.slice Ao lx co) ∧ Sl w' w.heap.size 2 Ao lx co (rms xs) ∧ Frm w w' fun _ => False
theorem PPost.of {lx : Nat} {xs : List Cm} {w : World} {f : FuncId} {v : Array Value} (h : xs.length = lx) (k : Calls Try.prog f v w (ParsePost xs w)) : Calls Try.prog f v w (PPost lx xs w) := by
  subst h; exact k
theorem RPost.of {lx : Nat} {xs : List Cm} {w : World} {f : FuncId} {v : Array Value} (h : xs.length = lx) (k : Calls Try.prog f v w (RParsePost xs w)) : Calls Try.prog f v w (RPost lx xs w) := by
  subst h; exact k
theorem info5 : (Try.prog.info? 5).map (fun i => (i.zero, i.size, i.bytes)) = some (some (.int .u8 0), 1, 1) := by kernel_rfl
theorem made_by (q : Nat) : (madeCells (Value.int .u8 0).cells (q * 1)).toList = by_ (List.replicate q 0) := by
  unfold by_
  rw [List.map_replicate, Nat.mul_one]
  apply List.ext_getElem
  · simp [madeCells]
  · intro i h1 h2
    simp [madeCells, Value.cells, Nat.mod_one]
theorem by_app (a b : List Nat) : by_ (a ++ b) = by_ a ++ by_ b := List.map_append
theorem by_one (l : List Nat) : ∀ u ∈ by_ l, u.oneCell' = true := by
  intro u hu
  obtain ⟨n, _, rfl⟩ := List.mem_map.1 hu
  rfl
theorem cmd1_k (l : List Nat) : (cmd1 l).1.k ≤ 255 := by
  unfold cmd1
  split
  · simp
  · split
    · simp
    · split
      · simp
      · split <;> simp
theorem cmdsF_k : ∀ (f : Nat) (l : List Nat), ∀ x ∈ cmdsF f l, x.k ≤ 255 := by
  intro f
  induction f with
  | zero => intro l x hx; cases hx
  | succ f ih =>
    intro l x hx
    cases l with
    | nil => cases hx
    | cons b r =>
      rcases List.mem_cons.1 hx with rfl | h
      · exact cmd1_k _
      · exact ih _ x h
theorem cmds_k (l : List Nat) : ∀ x ∈ cmds l, x.k ≤ 255 := cmdsF_k _ l
set_option maxRecDepth 100000 in
set_option maxHeartbeats 4000000 in
theorem walk0 (A : Option Addr) (n c a q : Nat) (l : List Nat) (w : World) (hr : Rd w w.heap.size 1 A n (by_ l)) (hA : ∀ j, blk A j → j < w.heap.size) (hu : ∀ m ∈ l, m ≤ 255) (hn : (n : Int) ≤ 500) (hq : (q : Int) ≤ 65536) (hd : (a : Int) % 8 = 0) (hqe : 65536 - (a : Int) / 8 % 4294967296 % 600 = (q : Int)) :
    Calls Try.prog 13 #[.slice A n c, .int .u32 (a : Nat)] w fun e w' => e = .returned (.bool true) ∧ Frm w w' fun _ => False := by
  obtain ⟨i5, hi, hz0, hz1, hz2⟩ := info_parts info5
  have hlen := (Rd.by_ hr).1
  have a0 : (0 : Int) ≤ (a : Int) := by omega
  have q0 : (0 : Int) ≤ (q : Int) := by omega
  have d1 : (((a : Int) % 8) == 0) = true := by simp [hd]
  obtain ⟨tl, htl⟩ : ∃ tl, List.replicate q 0 ++ l = tl := ⟨_, rfl⟩
  have htu : ∀ m ∈ tl, m ≤ 255 := by
    rw [← htl]
    intro m hm
    rcases List.mem_append.1 hm with h | h
    · rw [(List.mem_replicate.1 h).2]; omega
    · exact hu m h
  have hpl : tl.length = q + n := by rw [← htl, List.length_append, List.length_replicate, hlen]
  have hxl := cmds_len (tl.take 65536)
  have hxk := cmds_k (tl.take 65536)
  have hP := fun V A c' (h1 : Rd V V.heap.size 1 A (q + n) (by_ tl)) (h2 : q + n ≤ c') (h3 : ∀ j, blk A j → j < V.heap.size) => parse_any A (q + n) c' tl V h1 h2 (by omega) htu h3
  have hQ := fun V A c' (h1 : Rd V V.heap.size 1 A (q + n) (by_ tl)) (h2 : q + n ≤ c') => rparse_any A (q + n) c' tl V h1 h2 htu
  have hS := fun V A A' c' c2 (h1 : Rd V V.heap.size 2 A (cmds (tl.take 65536)).length (cms (cmds (tl.take 65536)))) (h2 : Rd V V.heap.size 2 A' (cmds (tl.take 65536)).length (rms (cmds (tl.take 65536)))) => same_cm A A' (cmds (tl.take 65536)).length c' c2 (cmds (tl.take 65536)) V h1 h2 (by rw [List.length_take] at hxl; omega) hxk
  obtain ⟨xs, hx⟩ : ∃ xs, cmds (tl.take 65536) = xs := ⟨_, rfl⟩
  rw [hx] at hP hQ hS
  obtain ⟨lx, hlx⟩ : ∃ k, xs.length = k := ⟨_, rfl⟩
  rw [hlx] at hS
  have hP' := fun V A c' h1 h2 h3 => PPost.of hlx (hP V A c' h1 h2 h3)
  have hQ' := fun V A c' h1 h2 => RPost.of hlx (hQ V A c' h1 h2)
  have HP := Lib.hid hP'
  have HQ := Lib.hid hQ'
  have HS := Lib.hid hS
  have HTL := Lib.hid htl
  have HR := Lib.hid hr
  have HL := Lib.hid hlen
  have HA := Lib.hid hA
  have lx0 : (0 : Int) ≤ (lx : Int) := by omega
  obtain ⟨h63, hby⟩ : q + n ≤ maxLen ∧ (q + n) * 1 ≤ 140737488355328 := by unfold maxLen; omega
  have hmk : 1 * q ≤ 281474976710656 ∧ q ≤ maxLen := by unfold maxLen; omega
  have hcat : by_ (List.replicate q 0) ++ by_ l = by_ tl := by rw [← by_app, htl]
  have HPL := Lib.hid hpl
  have HCAT := Lib.hid hcat
  clear hP hQ hP' hQ' hS htl hr hlen hA hpl hxl hxk hx hlx htu hu hcat
  go_enter Try.func13, Try.ntmps13
  go_wp2_with (first
    | (at_make; refine wpList_make_sl _ rfl (.tmp 21) (.tmp 21) 25 rfl 5 i5 _ 1 Try.underlying25 hi hz0 hz1 _ _ _ _ q rfl rfl (by omega) (by omega) (by rw [hz2]; exact hmk.1) hmk.2 ?_; intro w1 hs1 hf1 hw1; rw [made_by] at hs1; have S1 := Lib.hid hs1; have F1 := Lib.hid hf1; clear hs1 hf1 hw1)
    | (at_make; refine wpList_make_sl _ rfl (.tmp 28) (.tmp 28) 25 rfl 5 i5 _ 1 Try.underlying25 hi hz0 hz1 _ _ _ _ q rfl rfl (by omega) (by omega) (by rw [hz2]; exact hmk.1) hmk.2 ?_; intro w4 hs4 hf4 hw4; rw [made_by] at hs4; have S4 := Lib.hid hs4; have F4 := Lib.hid (F2.out.then_ hf4); have F3 := Lib.hid hf4; clear hs4 hf4 hw4)
    | (at_builtin; refine wpList_append_sl _ rfl (.tmp 22) (.tmp 23) 25 rfl w.heap.size 5 i5 _ 1 1 Try.underlying25 hi hz0 hz1 hz2 rfl (by decide) _ _ _ _ rfl S1.out _ _ _ (by_ l) rfl (HR.out.new_ F1.out) (by_one l) h63 hby F1.out.size ?_; intro At ct w2 hap; obtain ⟨hs2, hf2, _⟩ := hap; rw [HCAT.out] at hs2; have S2 := Lib.hid hs2; have F2 := Lib.hid (F1.out.fresh hf2 (fun j hj => (S1.out.ge hj).1)); clear hs2 hf2)
    | (at_builtin; refine wpList_append_sl _ rfl (.tmp 29) (.tmp 30) 25 rfl _ 5 i5 _ 1 1 Try.underlying25 hi hz0 hz1 hz2 rfl (by decide) _ _ _ _ rfl S4.out _ _ _ (by_ l) rfl (HR.out.new_ F4.out) (by_one l) h63 hby (Nat.le_of_lt (S4.out.ge ((blk_some _ _ _).2 rfl)).2) ?_; intro Au cu w5 hap; obtain ⟨hs5, hf5, _⟩ := hap; rw [HCAT.out] at hs5; have G5 := F3.out.fresh hf5 (fun j hj => (S4.out.ge hj).1); have S5 := Lib.hid hs5; have F5 := Lib.hid (F2.out.then_ G5); replace S2 := Lib.hid (S2.out.new_ G5); replace S3 := Lib.hid (S3.out.new_ G5); clear hs5 hf5 G5)
    | (go_at_call 57; refine (HQ.out _ _ _ S5.out.rd S5.out.le).mono ?_; rintro e w6 ⟨Ar, co, rfl, hs6, hf6⟩; have S6 := Lib.hid hs6; have F6 := Lib.hid (F5.out.then_ hf6); replace S2 := Lib.hid (S2.out.new_ hf6); replace S3 := Lib.hid (S3.out.new_ hf6); clear hs6 hf6)
    | (go_at_call 56; refine (HS.out _ _ _ _ _ S3.out.rd S6.out.rd).mono ?_; rintro e w7 ⟨rfl, hf7⟩; have F7 := Lib.hid (F6.out.then_ hf7); replace S2 := Lib.hid (S2.out.new_ hf7); replace S3 := Lib.hid (S3.out.new_ hf7); clear hf7)
    | (go_at_call 55; refine (HP.out _ _ _ S2.out.rd S2.out.le (fun j hj => (S2.out.ge hj).2)).mono ?_; rintro e w3 ⟨Ao, rfl, hs3, hf3⟩; have S3 := Lib.hid hs3; replace F2 := Lib.hid (F2.out.then_ hf3); replace S2 := Lib.hid (S2.out.new_ hf3); clear hs3 hf3))
  go_loopw [8] (fun i wr => ∃ k : Nat, i = .int .i64 k ∧ k ≤ n ∧ Frm w7 wr fun _ => False) (fun i _ => n - (intOf i).toNat)
  case atStart => exact ⟨0, rfl, Nat.zero_le _, Frm.refl _ _⟩
  case round =>
    obtain ⟨k, rfl, hk, hF2⟩ := hrel
    have F8 := Lib.hid hF2
    clear hF2
    by_cases hlt : k < n
    · have hkl : k < l.length := by have := HL.out; omega
      have hsl : q + k < tl.length := by have := HPL.out; omega
      obtain ⟨g, off, rfl, -, hcell⟩ := (Rd.by_ (S2.out.new_ F8.out).rd).2 (by omega)
      obtain ⟨g', off', rfl, -, hcell'⟩ := (Rd.by_ (HR.out.new_ (F7.out.then_ F8.out))).2 (by omega)
      have p0 := hcell (q + k) hsl
      have p1 := hcell' k hkl
      have hsame : tl[q + k] = l[k] := by have := HTL.out; subst this; simp
      rw [hsame] at p0
      obtain ⟨x, hx⟩ : ∃ x, l[k] = x := ⟨_, rfl⟩
      rw [hx] at p0 p1
      replace p0 := Grown.cell p0
      replace p1 := Grown.cell p1
      have i0 : (0 : Int) ≤ (k : Int) := by omega
      have i1 : (k : Int) < (n : Int) := by omega
      obtain ⟨s, hs⟩ : ∃ s, q + k = s := ⟨_, rfl⟩
      rw [hs] at p0
      have j0 : (q : Int) + (k : Int) = (s : Int) := by omega
      have j1 : (0 : Int) ≤ (s : Int) := by omega
      have j2 : (s : Int) < ((q : Int) + n : Int) := by omega
      clear hcell hx hcell' hs hsame hkl hsl
      go_wp2_with fail
      refine wp_region_grown wr (Frm.refl _ _) (by kernel_rfl) (by kernel_rfl) ?_
      repeat (go_big_quiet_step (fail))
      refine wpQuiet_nil ?_
      intro wq hq
      replace F8 := Lib.hid (F8.out.then_ hq)
      clear hq p0 p1
      go_wp2_with fail
      go_roundw
      case rel => exact ⟨k + 1, by go_num, by omega, F8.out⟩
      case measure => simp [intOf]; omega
    · obtain rfl : k = n := by omega
      go_wp2_with (go_at_call 54; refine (slives_any _).mono ?_; rintro e w9 ⟨rfl, hf9⟩; replace F8 := Lib.hid (F8.out.then_ hf9))
      go_ret
      exact ⟨rfl, F7.out.then_ F8.out⟩
set_option maxRecDepth 100000 in
set_option maxHeartbeats 4000000 in
theorem walk1 (A : Option Addr) (n c a q : Nat) (l : List Nat) (w : World) (hr : Rd w w.heap.size 1 A n (by_ l)) (hA : ∀ j, blk A j → j < w.heap.size) (hu : ∀ m ∈ l, m ≤ 255) (hn : (n : Int) ≤ 500) (hq : (q : Int) = 0) (hd : (a : Int) % 8 ≠ 0) :
    Calls Try.prog 13 #[.slice A n c, .int .u32 (a : Nat)] w fun e w' => e = .returned (.bool true) ∧ Frm w w' fun _ => False := by
  obtain ⟨i5, hi, hz0, hz1, hz2⟩ := info_parts info5
  have hlen := (Rd.by_ hr).1
  have a0 : (0 : Int) ≤ (a : Int) := by omega
  have q0 : (0 : Int) ≤ (q : Int) := by omega
  have d1 : (((a : Int) % 8) == 0) = false := by simp [hd]
  obtain ⟨tl, htl⟩ : ∃ tl, List.replicate q 0 ++ l = tl := ⟨_, rfl⟩
  have htu : ∀ m ∈ tl, m ≤ 255 := by
    rw [← htl]
    intro m hm
    rcases List.mem_append.1 hm with h | h
    · rw [(List.mem_replicate.1 h).2]; omega
    · exact hu m h
  have hpl : tl.length = q + n := by rw [← htl, List.length_append, List.length_replicate, hlen]
  have hxl := cmds_len (tl.take 65536)
  have hxk := cmds_k (tl.take 65536)
  have hP := fun V A c' (h1 : Rd V V.heap.size 1 A (q + n) (by_ tl)) (h2 : q + n ≤ c') (h3 : ∀ j, blk A j → j < V.heap.size) => parse_any A (q + n) c' tl V h1 h2 (by omega) htu h3
  have hQ := fun V A c' (h1 : Rd V V.heap.size 1 A (q + n) (by_ tl)) (h2 : q + n ≤ c') => rparse_any A (q + n) c' tl V h1 h2 htu
  have hS := fun V A A' c' c2 (h1 : Rd V V.heap.size 2 A (cmds (tl.take 65536)).length (cms (cmds (tl.take 65536)))) (h2 : Rd V V.heap.size 2 A' (cmds (tl.take 65536)).length (rms (cmds (tl.take 65536)))) => same_cm A A' (cmds (tl.take 65536)).length c' c2 (cmds (tl.take 65536)) V h1 h2 (by rw [List.length_take] at hxl; omega) hxk
  obtain ⟨xs, hx⟩ : ∃ xs, cmds (tl.take 65536) = xs := ⟨_, rfl⟩
  rw [hx] at hP hQ hS
  obtain ⟨lx, hlx⟩ : ∃ k, xs.length = k := ⟨_, rfl⟩
  rw [hlx] at hS
  have hP' := fun V A c' h1 h2 h3 => PPost.of hlx (hP V A c' h1 h2 h3)
  have hQ' := fun V A c' h1 h2 => RPost.of hlx (hQ V A c' h1 h2)
  have HP := Lib.hid hP'
  have HQ := Lib.hid hQ'
  have HS := Lib.hid hS
  have HTL := Lib.hid htl
  have HR := Lib.hid hr
  have HL := Lib.hid hlen
  have HA := Lib.hid hA
  have lx0 : (0 : Int) ≤ (lx : Int) := by omega
  obtain ⟨h63, hby⟩ : q + n ≤ maxLen ∧ (q + n) * 1 ≤ 140737488355328 := by unfold maxLen; omega
  have hmk : 1 * q ≤ 281474976710656 ∧ q ≤ maxLen := by unfold maxLen; omega
  have hcat : by_ (List.replicate q 0) ++ by_ l = by_ tl := by rw [← by_app, htl]
  have HPL := Lib.hid hpl
  have HCAT := Lib.hid hcat
  clear hP hQ hP' hQ' hS htl hr hlen hA hpl hxl hxk hx hlx htu hu hcat
  go_enter Try.func13, Try.ntmps13
  go_wp2_with (first
    | (at_make; refine wpList_make_sl _ rfl (.tmp 21) (.tmp 21) 25 rfl 5 i5 _ 1 Try.underlying25 hi hz0 hz1 _ _ _ _ q rfl rfl (by omega) (by omega) (by rw [hz2]; exact hmk.1) hmk.2 ?_; intro w1 hs1 hf1 hw1; rw [made_by] at hs1; have S1 := Lib.hid hs1; have F1 := Lib.hid hf1; clear hs1 hf1 hw1)
    | (at_make; refine wpList_make_sl _ rfl (.tmp 28) (.tmp 28) 25 rfl 5 i5 _ 1 Try.underlying25 hi hz0 hz1 _ _ _ _ q rfl rfl (by omega) (by omega) (by rw [hz2]; exact hmk.1) hmk.2 ?_; intro w4 hs4 hf4 hw4; rw [made_by] at hs4; have S4 := Lib.hid hs4; have F4 := Lib.hid (F2.out.then_ hf4); have F3 := Lib.hid hf4; clear hs4 hf4 hw4)
    | (at_builtin; refine wpList_append_sl _ rfl (.tmp 22) (.tmp 23) 25 rfl w.heap.size 5 i5 _ 1 1 Try.underlying25 hi hz0 hz1 hz2 rfl (by decide) _ _ _ _ rfl S1.out _ _ _ (by_ l) rfl (HR.out.new_ F1.out) (by_one l) h63 hby F1.out.size ?_; intro At ct w2 hap; obtain ⟨hs2, hf2, _⟩ := hap; rw [HCAT.out] at hs2; have S2 := Lib.hid hs2; have F2 := Lib.hid (F1.out.fresh hf2 (fun j hj => (S1.out.ge hj).1)); clear hs2 hf2)
    | (at_builtin; refine wpList_append_sl _ rfl (.tmp 29) (.tmp 30) 25 rfl _ 5 i5 _ 1 1 Try.underlying25 hi hz0 hz1 hz2 rfl (by decide) _ _ _ _ rfl S4.out _ _ _ (by_ l) rfl (HR.out.new_ F4.out) (by_one l) h63 hby (Nat.le_of_lt (S4.out.ge ((blk_some _ _ _).2 rfl)).2) ?_; intro Au cu w5 hap; obtain ⟨hs5, hf5, _⟩ := hap; rw [HCAT.out] at hs5; have G5 := F3.out.fresh hf5 (fun j hj => (S4.out.ge hj).1); have S5 := Lib.hid hs5; have F5 := Lib.hid (F2.out.then_ G5); replace S2 := Lib.hid (S2.out.new_ G5); replace S3 := Lib.hid (S3.out.new_ G5); clear hs5 hf5 G5)
    | (go_at_call 57; refine (HQ.out _ _ _ S5.out.rd S5.out.le).mono ?_; rintro e w6 ⟨Ar, co, rfl, hs6, hf6⟩; have S6 := Lib.hid hs6; have F6 := Lib.hid (F5.out.then_ hf6); replace S2 := Lib.hid (S2.out.new_ hf6); replace S3 := Lib.hid (S3.out.new_ hf6); clear hs6 hf6)
    | (go_at_call 56; refine (HS.out _ _ _ _ _ S3.out.rd S6.out.rd).mono ?_; rintro e w7 ⟨rfl, hf7⟩; have F7 := Lib.hid (F6.out.then_ hf7); replace S2 := Lib.hid (S2.out.new_ hf7); replace S3 := Lib.hid (S3.out.new_ hf7); clear hf7)
    | (go_at_call 55; refine (HP.out _ _ _ S2.out.rd S2.out.le (fun j hj => (S2.out.ge hj).2)).mono ?_; rintro e w3 ⟨Ao, rfl, hs3, hf3⟩; have S3 := Lib.hid hs3; replace F2 := Lib.hid (F2.out.then_ hf3); replace S2 := Lib.hid (S2.out.new_ hf3); clear hs3 hf3))
  go_loopw [8] (fun i wr => ∃ k : Nat, i = .int .i64 k ∧ k ≤ n ∧ Frm w7 wr fun _ => False) (fun i _ => n - (intOf i).toNat)
  case atStart => exact ⟨0, rfl, Nat.zero_le _, Frm.refl _ _⟩
  case round =>
    obtain ⟨k, rfl, hk, hF2⟩ := hrel
    have F8 := Lib.hid hF2
    clear hF2
    by_cases hlt : k < n
    · have hkl : k < l.length := by have := HL.out; omega
      have hsl : q + k < tl.length := by have := HPL.out; omega
      obtain ⟨g, off, rfl, -, hcell⟩ := (Rd.by_ (S2.out.new_ F8.out).rd).2 (by omega)
      obtain ⟨g', off', rfl, -, hcell'⟩ := (Rd.by_ (HR.out.new_ (F7.out.then_ F8.out))).2 (by omega)
      have p0 := hcell (q + k) hsl
      have p1 := hcell' k hkl
      have hsame : tl[q + k] = l[k] := by have := HTL.out; subst this; simp
      rw [hsame] at p0
      obtain ⟨x, hx⟩ : ∃ x, l[k] = x := ⟨_, rfl⟩
      rw [hx] at p0 p1
      replace p0 := Grown.cell p0
      replace p1 := Grown.cell p1
      have i0 : (0 : Int) ≤ (k : Int) := by omega
      have i1 : (k : Int) < (n : Int) := by omega
      have hs : q + k = k := by omega
      rw [hs] at p0
      have j2 : (k : Int) < (q : Int) + (n : Int) := by omega
      clear hcell hx hcell' hs hsame hkl hsl
      go_wp2_with fail
      refine wp_region_grown wr (Frm.refl _ _) (by kernel_rfl) (by kernel_rfl) ?_
      repeat (go_big_quiet_step (fail))
      refine wpQuiet_nil ?_
      intro wq hq
      replace F8 := Lib.hid (F8.out.then_ hq)
      clear hq p0 p1
      go_wp2_with fail
      go_roundw
      case rel => exact ⟨k + 1, by go_num, by omega, F8.out⟩
      case measure => simp [intOf]; omega
    · obtain rfl : k = n := by omega
      go_wp2_with (go_at_call 54; refine (slives_any _).mono ?_; rintro e w9 ⟨rfl, hf9⟩; replace F8 := Lib.hid (F8.out.then_ hf9))
      go_ret
      exact ⟨rfl, F7.out.then_ F8.out⟩
set_option maxRecDepth 100000 in
theorem walk2 (A : Option Addr) (n c a : Nat) (w : World) (hn : (500 : Int) < (n : Int)) :
    Calls Try.prog 13 #[.slice A n c, .int .u32 (a : Nat)] w fun e w' => e = .returned (.bool true) ∧ Frm w w' fun _ => False := by
  go_enter Try.func13, Try.ntmps13
  go_wp2_with (go_at_call 54; refine (slives_any _).mono ?_; rintro e w9 ⟨rfl, hf9⟩; have F8 := Lib.hid hf9)
  go_ret
  exact ⟨rfl, F8.out⟩
theorem walk (A : Option Addr) (n c a : Nat) (l : List Nat) (w : World) (hr : Rd w w.heap.size 1 A n (by_ l)) (hA : ∀ j, blk A j → j < w.heap.size) (hu : ∀ m ∈ l, m ≤ 255) (ha : (a : Int) ≤ 4294967295) :
    Calls Try.prog 13 #[.slice A n c, .int .u32 (a : Nat)] w fun e w' => e = .returned (.bool true) ∧ Frm w w' fun _ => False := by
  by_cases hn : (n : Int) ≤ 500
  · by_cases hd : (a : Int) % 8 = 0
    · exact walk0 A n c a (65536 - a / 8 % 600) l w hr hA hu hn (by omega) hd (by omega)
    · exact walk1 A n c a 0 l w hr hA hu hn (by omega) hd
  · exact walk2 A n c a w (by omega)
end Go.Proofs.Ytaenclbbiodhfaa.ScriptsParse
