import Derived.Test.YtaenclbbiodhfaaLnF
import Derived.Test.YtaenclbbiodhfaaLnI
namespace Go.Proofs.Ytaenclbbiodhfaa
open Go.RowKit

/-- Two lists that grow side by side, with nothing beside them. -/
structure Side (so : Nat → Bool) (xs : List En) (w wr : World) (k : Nat) (Ay : Option Addr) (cy : Nat) (An : Option Addr) (cn : Nat) : Prop where
  sy : Sl wr w.heap.size 3 Ay (sel so xs k).length cy (ens (sel so xs k))
  sn : Sl wr w.heap.size 3 An (sel (fun i => !(so i)) xs k).length cn (ens (sel (fun i => !(so i)) xs k))
  dyn : ∀ j, blk Ay j → ¬ blk An j
  frm : Frm w wr fun _ => False
section
variable {so : Nat → Bool} {xs : List En} {w wr w2 w3 : World} {k cy cn : Nat} {Ay An A' : Option Addr} {x : En}
theorem Side.start : Side so xs w w 0 none 0 none 0 := ⟨Sl.nil _ _ _, Sl.nil _ _ _, fun _ h => (blk_none _ h).elim, Frm.refl _ _⟩
theorem Side.new_ (M : Side so xs w wr k Ay cy An cn) (hf : Frm wr w2 fun _ => False) : Side so xs w w2 k Ay cy An cn := ⟨M.sy.new_ hf, M.sn.new_ hf, M.dyn, M.frm.then_ hf⟩
theorem Side.takes (M : Side so xs w wr k Ay cy An cn) (hk : k < xs.length) (hso : so k = true) (hx : x = xs[k]) {l cap' : Nat} (hl : (sel so xs k).length = l)
    (hal : Frm wr w2 fun _ => False) (ha : Appended w2 w3 w.heap.size 3 Ay A' (l + 1) cap' (ens (sel so xs k) ++ x.V)) : Side so xs w w3 (k + 1) A' cap' An cn := by
  obtain ⟨hs, hf, hA⟩ := ha
  have e1 : sel so xs (k + 1) = sel so xs k ++ [x] := by rw [sel_succ so xs k hk, hso, hx]; rfl
  have e2 : sel (fun i => !(so i)) xs (k + 1) = sel (fun i => !(so i)) xs k := by rw [sel_succ _ xs k hk]; simp [hso]
  have hsz := hal.size
  refine ⟨?_, ?_, fun j hj hn => ?_, ?_⟩
  · rw [e1, ens_snoc, List.length_append, hl]; exact hs
  · rw [e2]; exact (M.sn.new_ hal).frm hf (fun j hj h => M.dyn j h hj)
  · rcases hA j hj with h | h
    · exact M.dyn j h hn
    · have := (M.sn.ge hn).2; omega
  · exact (M.frm.then_ hal).fresh hf (fun j hj => (M.sy.ge hj).1)
theorem Side.leaves (M : Side so xs w wr k Ay cy An cn) (hk : k < xs.length) (hso : so k = false) (hx : x = xs[k]) {l cap' : Nat} (hl : (sel (fun i => !(so i)) xs k).length = l)
    (hal : Frm wr w2 fun _ => False) (ha : Appended w2 w3 w.heap.size 3 An A' (l + 1) cap' (ens (sel (fun i => !(so i)) xs k) ++ x.V)) : Side so xs w w3 (k + 1) Ay cy A' cap' := by
  obtain ⟨hs, hf, hA⟩ := ha
  have e1 : sel so xs (k + 1) = sel so xs k := by rw [sel_succ so xs k hk, hso]; simp
  have e2 : sel (fun i => !(so i)) xs (k + 1) = sel (fun i => !(so i)) xs k ++ [x] := by rw [sel_succ _ xs k hk, hx]; simp [hso]
  have hsz := hal.size
  refine ⟨?_, ?_, fun j hj hn => ?_, ?_⟩
  · rw [e1]; exact (M.sy.new_ hal).frm hf M.dyn
  · rw [e2, ens_snoc, List.length_append, hl]; exact hs
  · rcases hA j hn with h | h
    · exact M.dyn j hj h
    · have := (M.sy.ge hj).2; omega
  · exact (M.frm.then_ hal).fresh hf (fun j hj => (M.sn.ge hj).1)
end
/-- How many may still be taken: so many as may, less those that were. -/
theorem smRun_sel (key most : Int) (xs : List En) : ∀ k, k ≤ xs.length → (0 < smRun key most (xs.take k) ↔ ((sel (smSo key most xs) xs k).length : Int) < most) ∧ (0 < most → smRun key most (xs.take k) = most - ((sel (smSo key most xs) xs k).length : Int)) := by
  intro k hk
  induction k with
  | zero => simp [smRun, sel_zero]
  | succ k ih =>
    obtain ⟨h1, h2⟩ := ih (by omega)
    have hs := smSo_at key most xs k (by omega)
    have hm := smRun_le key most (xs.take k)
    rw [smRun_succ _ _ _ _ (by omega), sel_succ _ xs k (by omega), hs, List.length_append]
    unfold smStep
    by_cases hc : xs[k].k = key ∧ 0 < smRun key most (xs.take k)
    · rw [if_pos hc]
      have e := h2 (by omega)
      simp only [hc.1, hc.2, decide_true, Bool.and_self, if_true, List.length_cons, List.length_nil]
      omega
    · rw [if_neg hc]
      have e : (decide (xs[k].k = key) && decide (0 < smRun key most (xs.take k))) = false := by
        by_cases h : xs[k].k = key
        · have : ¬ 0 < smRun key most (xs.take k) := fun h' => hc ⟨h, h'⟩
          simp [this]
        · simp [h]
      rw [e]
      simp only [Bool.false_eq_true, if_false, List.length_nil, Nat.add_zero]
      exact ⟨h1, h2⟩
set_option maxRecDepth 100000 in
set_option maxHeartbeats 2000000 in
theorem rsome_any (A : Option Addr) (n c : Nat) (key most : Int) (xs : List En) (w : World) (hr : Rd w w.heap.size 3 A n (ens xs)) (hn : (n : Int) ≤ 1000) :
    Calls Try.prog 30 #[.slice A n c, .int .u32 key, .int .i64 most] w fun e w' => ∃ Ay cy An cn, e = .returned (.tuple #[.slice Ay (smTaken key most xs).length cy, .slice An (smLeft key most xs).length cn]) ∧
      Side (smSo key most xs) xs w w' xs.length Ay cy An cn := by
  obtain ⟨i47, hi, hz0, hz1, hz2⟩ := info_parts info47
  obtain ⟨hl, hcells⟩ := Rd.ens hr
  have HCE := Lib.hid hcells
  have HL := Lib.hid hl
  clear hr hl hcells
  go_enter Try.func30, Try.ntmps30
  go_wp2_with fail
  go_loopw [8, 9, 10] (fun y z i wr => ∃ (k : Nat) (Ay : Option Addr) (cy : Nat) (An : Option Addr) (cn : Nat), i = .int .i64 k ∧ k ≤ n ∧ y = .slice Ay (sel (smSo key most xs) xs k).length cy ∧ z = .slice An (sel (fun i => !(smSo key most xs i)) xs k).length cn ∧ Side (smSo key most xs) xs w wr k Ay cy An cn) (fun _ _ i _ => n - (intOf i).toNat)
  case atStart => exact ⟨0, none, 0, none, 0, rfl, Nat.zero_le _, rfl, rfl, Side.start⟩
  case round =>
    obtain ⟨k, Ay, cy, An, cn, rfl, hk, rfl, rfl, hM⟩ := hrel
    have M := Lib.hid hM
    have hle1 := sel_le (smSo key most xs) xs k
    have hle2 := sel_le (fun i => !(smSo key most xs i)) xs k
    by_cases hlt : k < n
    · obtain ⟨g, off, rfl, hg, hcell⟩ := HCE.out (by omega)
      have hkl : k < xs.length := by have := HL.out; omega
      obtain ⟨x, hx⟩ : ∃ x, x = xs[k] := ⟨_, rfl⟩
      have hc := hcell k hkl
      rw [← hx] at hc
      obtain ⟨q0, q1, q2⟩ := hc
      replace q0 := hM.frm.cell q0 id
      replace q1 := hM.frm.cell q1 id
      replace q2 := hM.frm.cell q2 id
      have i0 : (0 : Int) ≤ (k : Int) := by omega
      have i1 : (k : Int) < (n : Int) := by omega
      have HX := Lib.hid hx
      have hsy := hM.sy
      have hsn := hM.sn
      have hiff := (smRun_sel key most xs k (by omega)).1
      have hsok := smSo_at key most xs k hkl
      rw [← hx] at hsok
      obtain ⟨ly, hly⟩ : ∃ l, (sel (smSo key most xs) xs k).length = l := ⟨_, rfl⟩
      obtain ⟨ln, hln⟩ : ∃ l, (sel (fun i => !(smSo key most xs i)) xs k).length = l := ⟨_, rfl⟩
      rw [hly] at hsy hle1 hiff
      rw [hln] at hsn hle2
      have HLY := Lib.hid hly
      have HLN := Lib.hid hln
      have SY := Lib.hid hsy
      have SN := Lib.hid hsn
      have bb : ly + 1 ≤ maxLen ∧ (ly + 1) * 24 ≤ 140737488355328 ∧ ln + 1 ≤ maxLen ∧ (ln + 1) * 24 ≤ 140737488355328 := by unfold maxLen; omega
      obtain ⟨r1, r2, r3, r4⟩ := bb
      rw [hly, hln]
      clear hcell hx hly hln hsy hsn hM
      by_cases hkey : x.k = key
      · have b1 : (x.k == key) = true := by simp [hkey]
        by_cases hlen : (ly : Int) < most
        · have HSO : Hid (smSo key most xs k = true) := by show _ = _; rw [hsok]; simp [hkey, hiff.2 hlen]
          clear hsok hiff hkey
          go_wp2_with (at_builtin; refine wpList_append_sl _ rfl (.tmp 30) (.tmp 35) 37 rfl w.heap.size 47 i47 _ 3 24 Try.underlying37 hi hz0 hz1 hz2 rfl (by decide) _ _ _ _ rfl (SY.out.alloc _) _ 1 1 x.V rfl (Rd.fresh_at _ 47 #[.int .i64 x.t, .int .u32 x.k, .int .u64 x.tok] rfl rfl) x.one r1 r2 (Nat.le_trans M.out.frm.size (by simp)) ?_; intro A' cap' w3 hap; replace hap := Lib.hid hap)
          go_roundw
          case rel => exact ⟨k + 1, A', cap', An, cn, by go_num, by omega, by rw [sel_succ _ xs k hkl, HSO.out, List.length_append, HLY.out]; rfl, by rw [sel_succ _ xs k hkl, HSO.out, List.length_append, HLN.out]; rfl, M.out.takes hkl HSO.out HX.out HLY.out ((Frm.refl _ _).alloc _) hap.out⟩
          case measure => simp [intOf]; omega
        · have HSO : Hid (smSo key most xs k = false) := by show _ = _; rw [hsok]; have : ¬ 0 < smRun key most (xs.take k) := fun h => hlen (hiff.1 h); simp [this]
          clear hsok hiff hkey
          go_wp2_with (at_builtin; refine wpList_append_sl _ rfl (.tmp 37) (.tmp 42) 37 rfl w.heap.size 47 i47 _ 3 24 Try.underlying37 hi hz0 hz1 hz2 rfl (by decide) _ _ _ _ rfl (SN.out.alloc _) _ 1 1 x.V rfl (Rd.fresh_at _ 47 #[.int .i64 x.t, .int .u32 x.k, .int .u64 x.tok] rfl rfl) x.one r3 r4 (Nat.le_trans M.out.frm.size (by simp)) ?_; intro A' cap' w3 hap; replace hap := Lib.hid hap)
          go_roundw
          case rel => exact ⟨k + 1, Ay, cy, A', cap', by go_num, by omega, by rw [sel_succ _ xs k hkl, HSO.out, List.length_append, HLY.out]; rfl, by rw [sel_succ _ xs k hkl, HSO.out, List.length_append, HLN.out]; rfl, M.out.leaves hkl HSO.out HX.out HLN.out ((Frm.refl _ _).alloc _) hap.out⟩
          case measure => simp [intOf]; omega
      · have b1 : (x.k == key) = false := by simp [hkey]
        have HSO : Hid (smSo key most xs k = false) := by show _ = _; rw [hsok]; simp [hkey]
        clear hsok hiff hkey
        go_wp2_with (at_builtin; refine wpList_append_sl _ rfl (.tmp 37) (.tmp 42) 37 rfl w.heap.size 47 i47 _ 3 24 Try.underlying37 hi hz0 hz1 hz2 rfl (by decide) _ _ _ _ rfl (SN.out.alloc _) _ 1 1 x.V rfl (Rd.fresh_at _ 47 #[.int .i64 x.t, .int .u32 x.k, .int .u64 x.tok] rfl rfl) x.one r3 r4 (Nat.le_trans M.out.frm.size (by simp)) ?_; intro A' cap' w3 hap; replace hap := Lib.hid hap)
        go_roundw
        case rel => exact ⟨k + 1, Ay, cy, A', cap', by go_num, by omega, by rw [sel_succ _ xs k hkl, HSO.out, List.length_append, HLY.out]; rfl, by rw [sel_succ _ xs k hkl, HSO.out, List.length_append, HLN.out]; rfl, M.out.leaves hkl HSO.out HX.out HLN.out ((Frm.refl _ _).alloc _) hap.out⟩
        case measure => simp [intOf]; omega
    · obtain rfl : k = n := by omega
      clear hM
      go_wp2_with fail
      go_ret2
      have hkx : k = xs.length := HL.out
      subst hkx
      exact ⟨Ay, cy, An, cn, rfl, M.out⟩
end Go.Proofs.Ytaenclbbiodhfaa
