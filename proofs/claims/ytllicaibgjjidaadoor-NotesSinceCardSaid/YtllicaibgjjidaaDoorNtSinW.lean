import Derived.Test.YtllicaibgjjidaaDoorNtT
import Derived.Test.YtllicaibgjjidaaDoorNtO
import Derived.Deep.DeepCutAuto
import Derived.Deep.RegionWith
namespace Go.Proofs.YtllicaibgjjidaaDoor.Sin
open Go.ChangeShapes Go.WideShapes Go.ChangeAt Go.WideMaps Go.WideElems Go.RowKit Go.Proofs.YtllicaibgjjidaaDoor

/-- What the list holds behind k notes. -/
def st (N : Nat → Nt) : Nat → List Nt
  | 0 => []
  | k + 1 => addL (st N k) (N k)
theorem st_len (N : Nat → Nt) (k : Nat) : (st N k).length ≤ k := by
  induction k with
  | zero => exact Nat.le_refl _
  | succ k ih => have := addL_length (st N k) (N k); show (addL _ _).length ≤ _; omega
theorem st_ok {N : Nat → Nt} {len : Nat} (hN : ∀ i, i < len → 0 ≤ (N i).k ∧ (N i).k ≤ 255) (k : Nat) (hk : k ≤ len) : Oks (st N k) := by
  induction k with
  | zero => intro x hx; cases hx
  | succ k ih =>
    intro x hx
    have hx' : x ∈ addL (st N k) (N k) := hx
    unfold addL at hx'
    split at hx'
    · rcases List.mem_append.1 hx' with h | h
      · exact ih (by omega) x h
      · simp at h; subst h; exact hN k (by omega)
    · exact ih (by omega) x hx'
/-- The steps do not fall. -/
def Srt (xs : List Nt) : Prop := ∀ i a b, xs[i]? = some a → xs[i + 1]? = some b → ¬ b.s < a.s
theorem st_srt (N : Nat → Nt) (k : Nat) : Srt (st N k) := by
  induction k with
  | zero => intro i a b h; cases i <;> cases h
  | succ k ih =>
    show Srt (addL (st N k) (N k))
    unfold addL
    split
    · rename_i ht
      intro i a b ha hb
      by_cases h1 : i + 1 < (st N k).length
      · rw [List.getElem?_append_left (by omega)] at ha
        rw [List.getElem?_append_left h1] at hb
        exact ih i a b ha hb
      · have hlen : i + 1 < ((st N k) ++ [N k]).length := (List.getElem?_eq_some_iff.1 hb).1
        simp at hlen
        have hi : i + 1 = (st N k).length := by omega
        rw [List.getElem?_append_right (by omega), hi, Nat.sub_self] at hb
        simp at hb
        subst hb
        rw [List.getElem?_append_left (by omega)] at ha
        have hl : (st N k).getLast? = some a := by rw [List.getLast?_eq_getElem?, ← hi]; simpa using ha
        unfold takes at ht
        rw [hl] at ht
        simp at ht
        omega
    · exact ih
/-- The list, and the wanted notes beside it. -/
structure Wnt (w wr : World) (A1 : Option Addr) (c1 : Nat) (A2 : Option Addr) (c2 : Nat) (xs : List Nt) : Prop where
  p : Own Nt.P w wr (w.heap.size + 1) w.heap.size A1 c1 xs
  want : Sl wr (w.heap.size + 1) 7 A2 xs.length c2 (xs.flatMap Nt.P)
  dis : ∀ k, blk A1 k → ¬ blk A2 k
theorem Wnt.new_ {w wr w' : World} {c1 c2 : Nat} {A1 A2 : Option Addr} {xs : List Nt} (h : Wnt w wr A1 c1 A2 c2 xs) (hf : Frm wr w' fun _ => False) : Wnt w w' A1 c1 A2 c2 xs := ⟨h.p.new_ hf, h.want.new_ hf, h.dis⟩
theorem Wnt.first (w : World) : Wnt w (w.alloc (.cells #[.slice none 0 0] 54)) none 0 none 0 [] := ⟨Own.first Nt.P w 54, Sl.nil _ _ _, fun _ h => (blk_none _ h).elim⟩
/-- Behind an addition: the list has turned, the wanted notes have not. -/
theorem Wnt.added {w wr w' : World} {c1 c2 : Nat} {A1 A2 : Option Addr} {xs ys : List Nt} (h : Wnt w wr A1 c1 A2 c2 xs) (ha : Added Nt.P wr w' (w.heap.size + 1) w.heap.size A1 ys) :
    ∃ A1' c1', Own Nt.P w w' (w.heap.size + 1) w.heap.size A1' c1' ys ∧ Sl w' (w.heap.size + 1) 7 A2 xs.length c2 (xs.flatMap Nt.P) ∧ ∀ k, blk A1' k → ¬ blk A2 k := by
  have ha' := ha
  obtain ⟨A', cap', hl, hf, hw⟩ := ha
  have hp : Own Nt.P w w' (w.heap.size + 1) w.heap.size A' cap' ys := by
    refine ⟨hl, h.p.frm.trans hf fun k hk hS => ?_, h.p.hb, h.p.hB, Nat.le_trans h.p.le hf.size⟩
    rcases hS with rfl | hS
    · omega
    · have := (h.p.lst.sl.ge hS).1; omega
  refine ⟨A', cap', hp, h.want.frm hf fun k hk hS => ?_, fun k hk hk2 => ?_⟩
  · have := (h.want.ge hk).1
    rcases hS with rfl | hS
    · omega
    · exact h.dis k hS hk
  · rcases hw k hk with h1 | h1
    · exact h.dis k h1 hk2
    · have := (h.want.ge hk2).2; omega
/-- .. and behind the append of the same note. -/
theorem Wnt.wanted {w wr W w' : World} {c1 c2 c2' : Nat} {A1 A2 A2' : Option Addr} {xs : List Nt} {n : Nt} {m : Nat} (hm : xs.length = m) (hp : Own Nt.P w wr (w.heap.size + 1) w.heap.size A1 c1 (xs ++ [n])) (hd : ∀ k, blk A1 k → ¬ blk A2 k) (hs : Sl wr (w.heap.size + 1) 7 A2 m c2 (xs.flatMap Nt.P))
    (hf : Frm wr W fun _ => False) (ha : Appended W w' (w.heap.size + 1) 7 A2 A2' (m + 1) c2' (xs.flatMap Nt.P ++ n.P)) : Wnt w w' A1 c1 A2' c2' (xs ++ [n]) := by
  subst hm
  have h1 := hp.new_ hf
  obtain ⟨hs2, hf2, hw2⟩ := ha
  refine ⟨⟨h1.lst.frm hf2 ?_ fun k hk hS => hd k hk hS, h1.frm.trans hf2 fun k hk hS => ?_, h1.hb, h1.hB, Nat.le_trans h1.le hf2.size⟩, by simpa using hs2, fun k hk hk2 => ?_⟩
  · intro hS
    have := (hs.ge hS).1; omega
  · have := (hs.ge hS).1; omega
  · rcases hw2 k hk2 with h3 | h3
    · exact hd k hk h3
    · have := (h1.lst.sl.ge hk).2; omega

set_option maxHeartbeats 8000000 in
set_option maxRecDepth 100000 in
theorem walk (A : Option Addr) (len cap : Nat) (N : Nat → Nt) (c : Int) (h0c : 0 ≤ c) (h1c : c ≤ 255) (w : World) (hT : Tab w) (hA : Args w A len N) (hN : ∀ i, i < len → 0 ≤ (N i).k ∧ (N i).k ≤ 255) (hl : len ≤ 9223372036854775807) :
    Calls Tryd.prog 5 #[.slice A len cap, .int .u8 c] w fun e w' => e = .returned (.bool true) ∧ Frm w w' fun _ => False := by
  by_cases h200 : 200 < len
  · have HT := Lib.hid hT
    clear hT
    go_enter Tryd.func5, Tryd.ntmps5
    go_wp2_with (go_at_call 11; refine (lives_any _ HT.out).mono ?_; rintro e w' ⟨rfl, hf⟩)
    go_ret
    exact ⟨rfl, hf⟩
  · have HT := Lib.hid hT
    have HA := Lib.hid hA
    have HN := Lib.hid hN
    have T0 := Lib.hid (Wnt.first w)
    have L200 := Lib.hid (Nat.not_lt.1 h200)
    clear hT hA hN
    go_enter Tryd.func5, Tryd.ntmps5
    go_wp2_with (go_at_call 8; refine (new_any w).mono ?_; rintro e w' ⟨rfl, rfl⟩)
    go_loopw [6, 7, 8] (fun s6 s7 s8 wr => ∃ (k x m : Nat) (A1 : Option Addr) (c1 : Nat) (A2 : Option Addr) (c2 : Nat), s8 = .int .i64 k ∧ s7 = .int .i64 x ∧ s6 = .slice A2 m c2 ∧ k ≤ len ∧ (st N k).length = m ∧ x ≤ m ∧ Wnt w wr A1 c1 A2 c2 (st N k)) (fun _ _ s8 _ => len - (intOf s8).toNat)
    case atStart => exact ⟨0, 0, 0, none, 0, none, 0, rfl, rfl, rfl, Nat.zero_le _, rfl, Nat.le_refl _, T0.out⟩
    case round =>
      clear T0
      obtain ⟨k, x, m, A1, c1, A2, c2, rfl, rfl, rfl, hk, hm, hx, hS⟩ := hrel
      have T := Lib.hid hS
      clear hS
      by_cases hlt : k < len
      · obtain ⟨g, off, rfl, hg, hcell⟩ := HA.out (by omega)
        obtain ⟨n, hn⟩ : ∃ n, N k = n := ⟨_, rfl⟩
        have hc := hcell k hlt
        rw [hn] at hc
        obtain ⟨n0, n1⟩ := HN.out k hlt
        rw [hn] at n0 n1
        obtain ⟨xs, hxs⟩ : ∃ xs, st N k = xs := ⟨_, rfl⟩
        have hst : Hid (st N (k + 1) = addL xs n) := by show _ = _; rw [← hn, ← hxs]; rfl
        rw [hxs] at T hm
        have hm200 : m ≤ 200 := by have h1 := st_len N k; rw [hxs, hm] at h1; have := L200.out; omega
        have hfew : Few xs.length := ⟨by omega⟩
        have ik : (0 : Int) ≤ (k : Int) := by omega
        have ik1 : (k : Int) < (len : Int) := by omega
        obtain ⟨q0, q1, q2, q3, q4, q5, q6⟩ := cells7 (n := n) (g := g) (o := off + k * 7) T.out.p.frm hc
        have hc0 := Lib.hid hc
        have hd := T.out.p.lst.head
        rw [hm] at hd
        have HD := Lib.hid hd
        have HM := Lib.hid hm
        have hbm : ((m : Int) == (m : Int) + 1) = false := by simp; omega
        clear hcell hc hxs hn hd hm
        cases htk : takes xs n
        · have e1 : addE xs n = 1 := by simp [addE, htk]
          have e2 : addL xs n = xs := by simp [addL, htk]
          have CA := add_any _ _ _ _ xs n n0 n1 _ (HT.out.frm T.out.p.frm id) T.out.p.lst T.out.p.le hfew
          rw [e1, e2] at CA
          rw [e2] at hst
          replace CA := Lib.hid CA
          clear e1 e2 htk hfew
          by_cases hkc : (k : Int) = c
          · obtain rfl : c = (k : Int) := hkc.symm
            clear hkc
            go_wp2_with (first
              | (go_at_call 9; refine CA.out.mono ?_; rintro e w3 ⟨rfl, ha⟩; obtain ⟨A1', c1', O1, hw1, hd1⟩ := T.out.added ha; have hh := Lib.hid O1.lst.head; rw [HM.out] at hh; have K := Lib.hid (And.intro O1 (And.intro hw1 hd1)); clear ha CA O1 hw1 hd1)
              | (go_at_call 14; refine (count_any _ m _ _ _ HD.out).mono ?_; rintro e w' ⟨rfl, rfl⟩)
              | (go_at_call 14; refine (count_any _ m _ _ _ hh.out).mono ?_; rintro e w' ⟨rfl, rfl⟩))
            go_roundw
            case rel => exact ⟨k + 1, m, m, A1', c1', A2, c2, by go_num, rfl, rfl, by omega, by rw [hst.out]; exact HM.out, by omega, by rw [hst.out]; exact ⟨K.out.1, K.out.2.1, K.out.2.2⟩⟩
            case measure => simp [intOf]; omega
          · have b1 : ((k : Int) == c) = false := by simp [hkc]
            clear hkc
            go_wp2_with (first
              | (go_at_call 9; refine CA.out.mono ?_; rintro e w3 ⟨rfl, ha⟩; obtain ⟨A1', c1', O1, hw1, hd1⟩ := T.out.added ha; have hh := Lib.hid O1.lst.head; rw [HM.out] at hh; have K := Lib.hid (And.intro O1 (And.intro hw1 hd1)); clear ha CA O1 hw1 hd1)
              | (go_at_call 14; refine (count_any _ m _ _ _ HD.out).mono ?_; rintro e w' ⟨rfl, rfl⟩)
              | (go_at_call 14; refine (count_any _ m _ _ _ hh.out).mono ?_; rintro e w' ⟨rfl, rfl⟩))
            go_roundw
            case rel => exact ⟨k + 1, x, m, A1', c1', A2, c2, by go_num, rfl, rfl, by omega, by rw [hst.out]; exact HM.out, by omega, by rw [hst.out]; exact ⟨K.out.1, K.out.2.1, K.out.2.2⟩⟩
            case measure => simp [intOf]; omega
        · have e1 : addE xs n = 0 := by simp [addE, htk]
          have e2 : addL xs n = xs ++ [n] := by simp [addL, htk]
          have CA := add_any _ _ _ _ xs n n0 n1 _ (HT.out.frm T.out.p.frm id) T.out.p.lst T.out.p.le hfew
          rw [e1, e2] at CA
          rw [e2] at hst
          replace CA := Lib.hid CA
          have hlen1 : Hid ((xs ++ [n]).length = m + 1) := by show _ = _; rw [List.length_append, HM.out]; rfl
          obtain ⟨i32, hi, hz0, hz1, hz2⟩ := info_parts info32
          have hroom : m + 1 ≤ maxLen ∧ (m + 1) * 48 ≤ 140737488355328 := by unfold maxLen; omega
          clear e1 e2 htk hfew
          by_cases hkc : (k : Int) = c
          · obtain rfl : c = (k : Int) := hkc.symm
            clear hkc
            go_wp2_with (first
              | (go_at_call 9; refine CA.out.mono ?_; rintro e w3 ⟨rfl, ha⟩; obtain ⟨A1', c1', O1, hw1, hd1⟩ := T.out.added ha; have hh := Lib.hid O1.lst.head; rw [hlen1.out] at hh; rw [HM.out] at hw1; obtain ⟨y0, y1, y2, y3, y4, y5, y6⟩ := cells7 (n := n) (g := g) (o := off + k * 7) O1.frm hc0.out; have K := Lib.hid (And.intro O1 (And.intro hw1 hd1)); clear ha CA O1 hw1 hd1 q0 q1 q2 q3 q4 q5 q6)
              | (at_builtin; refine wpList_append_sl _ rfl (.tmp 59) (.tmp 64) 36 rfl (w.heap.size + 1) 32 i32 _ 7 48 Tryd.underlying36 hi hz0 hz1 hz2 rfl (by decide) _ _ _ _ rfl (K.out.2.1.new_ (by (repeat (first | exact Frm.refl _ _ | apply Frm.drew | apply Frm.drewN | apply Frm.alloc)))) _ 1 1 n.P rfl (Rd.fresh_at _ 32 #[.int .i64 n.s, .int .i64 n.t, .int .u8 n.k, .int .u32 n.a, .int .i64 n.o, .int .u32 n.p, .int .u64 n.v] rfl (by simp)) (oneP n) hroom.1 hroom.2 (by have := K.out.1.le; simp; omega) ?_; intro A2' c2' w4 hap; replace hap := Lib.hid hap)
              | (go_at_call 14; refine (count_any _ m _ _ _ HD.out).mono ?_; rintro e w' ⟨rfl, rfl⟩)
              | (go_at_call 14; refine (count_any _ (m + 1) _ _ _ hh.out).mono ?_; rintro e w' ⟨rfl, rfl⟩))
            go_roundw
            case rel => exact ⟨k + 1, m, m + 1, A1', c1', A2', c2', by go_num, rfl, rfl, by omega, by rw [hst.out]; exact hlen1.out, by omega, by rw [hst.out]; exact Wnt.wanted HM.out K.out.1 K.out.2.2 K.out.2.1 (by (repeat (first | exact Frm.refl _ _ | apply Frm.drew | apply Frm.drewN | apply Frm.alloc))) hap.out⟩
            case measure => simp [intOf]; omega
          · have b1 : ((k : Int) == c) = false := by simp [hkc]
            clear hkc
            go_wp2_with (first
              | (go_at_call 9; refine CA.out.mono ?_; rintro e w3 ⟨rfl, ha⟩; obtain ⟨A1', c1', O1, hw1, hd1⟩ := T.out.added ha; have hh := Lib.hid O1.lst.head; rw [hlen1.out] at hh; rw [HM.out] at hw1; obtain ⟨y0, y1, y2, y3, y4, y5, y6⟩ := cells7 (n := n) (g := g) (o := off + k * 7) O1.frm hc0.out; have K := Lib.hid (And.intro O1 (And.intro hw1 hd1)); clear ha CA O1 hw1 hd1 q0 q1 q2 q3 q4 q5 q6)
              | (at_builtin; refine wpList_append_sl _ rfl (.tmp 59) (.tmp 64) 36 rfl (w.heap.size + 1) 32 i32 _ 7 48 Tryd.underlying36 hi hz0 hz1 hz2 rfl (by decide) _ _ _ _ rfl (K.out.2.1.new_ (by (repeat (first | exact Frm.refl _ _ | apply Frm.drew | apply Frm.drewN | apply Frm.alloc)))) _ 1 1 n.P rfl (Rd.fresh_at _ 32 #[.int .i64 n.s, .int .i64 n.t, .int .u8 n.k, .int .u32 n.a, .int .i64 n.o, .int .u32 n.p, .int .u64 n.v] rfl (by simp)) (oneP n) hroom.1 hroom.2 (by have := K.out.1.le; simp; omega) ?_; intro A2' c2' w4 hap; replace hap := Lib.hid hap)
              | (go_at_call 14; refine (count_any _ m _ _ _ HD.out).mono ?_; rintro e w' ⟨rfl, rfl⟩)
              | (go_at_call 14; refine (count_any _ (m + 1) _ _ _ hh.out).mono ?_; rintro e w' ⟨rfl, rfl⟩))
            go_roundw
            case rel => exact ⟨k + 1, x, m + 1, A1', c1', A2', c2', by go_num, rfl, rfl, by omega, by rw [hst.out]; exact hlen1.out, by omega, by rw [hst.out]; exact Wnt.wanted HM.out K.out.1 K.out.2.2 K.out.2.1 (by (repeat (first | exact Frm.refl _ _ | apply Frm.drew | apply Frm.drewN | apply Frm.alloc))) hap.out⟩
            case measure => simp [intOf]; omega
      · obtain rfl : k = len := by omega
        obtain ⟨xs, hxs⟩ : ∃ xs, st N k = xs := ⟨_, rfl⟩
        have hoks : Oks xs := by rw [← hxs]; exact st_ok HN.out k (Nat.le_refl _)
        have hsrt : Srt xs := by rw [← hxs]; exact st_srt N k
        rw [hxs] at T hm
        have hm200 : m ≤ 200 := by have h1 := st_len N k; rw [hxs, hm] at h1; have := L200.out; omega
        obtain ⟨sn, rfl⟩ : ∃ sn, m = x + sn := ⟨m - x, by omega⟩
        have hfew : Few xs.length := ⟨by omega⟩
        have CA := all_any _ _ _ _ xs _ T.out.p.le T.out.p.lst hfew
        rw [hm] at CA
        replace CA := Lib.hid CA
        have HM := Lib.hid hm
        have HY := Lib.hid (And.intro hoks (And.intro hsrt hfew))
        clear hoks hsrt hfew hxs hm
        go_wp2_with (first
          | (go_at_call 15; refine CA.out.mono ?_; rintro e w6 ⟨A', rfl, hsl, hf⟩; have T4 := Lib.hid (T.out.new_ hf); replace hsl := Lib.hid hsl; clear hf)
          | (go_at_call 16; refine (since_any _ _ _ _ xs (x : Int) w6 T4.out.p.le T4.out.p.lst HY.out.2.2).mono ?_; rw [HM.out, Int.toNat_natCast, Nat.add_sub_cancel_left]; rintro e w7 ⟨A'', rfl, hsl2, hf⟩; have T5 := Lib.hid (T4.out.new_ hf); have hsl1 := Lib.hid (hsl.out.new_ hf); replace hsl2 := Lib.hid hsl2; clear hf))
        go_loopw [13] (fun y wr => ∃ k2 : Nat, y = .int .i64 k2 ∧ k2 ≤ x + sn ∧ Frm w7 wr fun _ => False) (fun y _ => x + sn - (intOf y).toNat)
        case atStart => exact ⟨0, rfl, Nat.zero_le _, Frm.refl _ _⟩
        case round =>
          obtain ⟨k2, rfl, hk2, hF⟩ := hrel
          by_cases hlt2 : k2 < x + sn
          · have hkx : k2 < xs.length := by have := HM.out; omega
            obtain ⟨n, hn⟩ : ∃ n, xs[k2] = n := ⟨_, rfl⟩
            obtain ⟨-, cA⟩ := hsl1.out.rd.at lenP
            obtain ⟨gA, oA, rfl, _, cA⟩ := cA (by omega)
            obtain ⟨-, cW⟩ := T5.out.want.rd.at lenP
            obtain ⟨gW, oW, rfl, _, cW⟩ := cW (by omega)
            obtain ⟨p0, p1, p2, p3, p4, p5, p6⟩ := cells7 (n := n) (g := gA) (o := oA + k2 * 7) hF (fun j u hu => cA k2 hkx j u (by rw [hn]; exact hu))
            obtain ⟨r0, r1, r2, r3, r4, r5, r6⟩ := cells7 (n := n) (g := gW) (o := oW + k2 * 7) hF (fun j u hu => cW k2 hkx j u (by rw [hn]; exact hu))
            have i0 : (0 : Int) ≤ (k2 : Int) := by omega
            have i1 : (k2 : Int) < (x : Int) + (sn : Int) := by omega
            by_cases hz : k2 = 0
            · have b2 : decide (0 < (k2 : Int)) = false := decide_eq_false (by omega)
              have b2n : decide (0 < k2) = false := decide_eq_false (by omega)
              replace hz := Lib.hid hz
              by_cases hx2 : x ≤ k2
              · obtain ⟨t, ht⟩ : ∃ t, k2 = x + t := ⟨k2 - x, by omega⟩
                obtain ⟨-, cS⟩ := hsl2.out.rd.at lenP
                obtain ⟨gS, oS, rfl, _, cS⟩ := cS (by omega)
                have htl : t < (xs.drop x).length := by rw [List.length_drop]; omega
                have hnt : (xs.drop x)[t] = n := by rw [List.getElem_drop, ← hn]; congr 1; omega
                obtain ⟨z0, z1, z2, z3, z4, z5, z6⟩ := cells7 (n := n) (g := gS) (o := oS + t * 7) hF (fun j u hu => cS t htl j u (by rw [hnt]; exact hu))
                have e2 : (k2 : Int) - (x : Int) = (t : Int) := by omega
                have b3 : decide ((x : Int) ≤ (k2 : Int)) = true := decide_eq_true (by omega)
                have i4 : (0 : Int) ≤ (t : Int) := by omega
                have i5 : (t : Int) < (sn : Int) := by omega
                have HF := Lib.hid hF
                clear hF cA cW cS ht htl hnt hn hkx
                go_wp2_with fail
                go_quiet (fail)
                go_wp2_with fail
                go_roundw
                case rel => exact ⟨k2 + 1, by go_num, by omega, HF.out.drewN _⟩
                case measure => simp [intOf]; omega
              · have b3 : decide ((x : Int) ≤ (k2 : Int)) = false := decide_eq_false (by omega)
                have HF := Lib.hid hF
                clear hF cA cW hn hkx
                go_wp2_with fail
                go_quiet (fail)
                go_wp2_with fail
                go_roundw
                case rel => exact ⟨k2 + 1, by go_num, by omega, HF.out.drewN _⟩
                case measure => simp [intOf]; omega
            · obtain ⟨k1, hk1⟩ : ∃ k1, k2 = k1 + 1 := ⟨k2 - 1, by omega⟩
              have b2 : decide (0 < (k2 : Int)) = true := decide_eq_true (by omega)
              have b2n : 0 < k2 := by omega
              have e1 : (k2 : Int) - 1 = (k1 : Int) := by omega
              have i2 : (0 : Int) ≤ (k1 : Int) := by omega
              have i3 : (k1 : Int) < (x : Int) + (sn : Int) := by omega
              have hk1x : k1 < xs.length := by omega
              obtain ⟨l, hl1⟩ : ∃ l, xs[k1] = l := ⟨_, rfl⟩
              have v0 := hF.cell (cA k1 hk1x 0 _ (by rw [hl1]; rfl)) id
              rw [Nat.add_zero] at v0
              have hnl : ¬ n.s < l.s := HY.out.2.1 k1 l n (by rw [List.getElem?_eq_getElem hk1x, hl1]) (by rw [← hk1, List.getElem?_eq_getElem hkx, hn])
              have b4 : decide (n.s < l.s) = false := decide_eq_false hnl
              clear hl1 hk1x hnl hk1
              by_cases hx2 : x ≤ k2
              · obtain ⟨t, ht⟩ : ∃ t, k2 = x + t := ⟨k2 - x, by omega⟩
                obtain ⟨-, cS⟩ := hsl2.out.rd.at lenP
                obtain ⟨gS, oS, rfl, _, cS⟩ := cS (by omega)
                have htl : t < (xs.drop x).length := by rw [List.length_drop]; omega
                have hnt : (xs.drop x)[t] = n := by rw [List.getElem_drop, ← hn]; congr 1; omega
                obtain ⟨z0, z1, z2, z3, z4, z5, z6⟩ := cells7 (n := n) (g := gS) (o := oS + t * 7) hF (fun j u hu => cS t htl j u (by rw [hnt]; exact hu))
                have e2 : (k2 : Int) - (x : Int) = (t : Int) := by omega
                have b3 : decide ((x : Int) ≤ (k2 : Int)) = true := decide_eq_true (by omega)
                have i4 : (0 : Int) ≤ (t : Int) := by omega
                have i5 : (t : Int) < (sn : Int) := by omega
                have HF := Lib.hid hF
                clear hF cA cW cS ht htl hnt hn hkx
                go_wp2_with fail
                go_quiet (fail)
                go_wp2_with fail
                go_roundw
                case rel => exact ⟨k2 + 1, by go_num, by omega, HF.out.drewN _⟩
                case measure => simp [intOf]; omega
              · have b3 : decide ((x : Int) ≤ (k2 : Int)) = false := decide_eq_false (by omega)
                have HF := Lib.hid hF
                clear hF cA cW hn hkx
                go_wp2_with fail
                go_quiet (fail)
                go_wp2_with fail
                go_roundw
                case rel => exact ⟨k2 + 1, by go_num, by omega, HF.out.drewN _⟩
                case measure => simp [intOf]; omega
          · obtain rfl : k2 = x + sn := by omega
            have T6 := Lib.hid (T5.out.new_ hF)
            clear hF
            go_wp2_with (go_at_call 11; refine (lives_any _ (HT.out.frm T6.out.p.frm id)).mono ?_; rintro e w8 ⟨rfl, hf⟩)
            go_ret
            exact ⟨rfl, T6.out.p.frm.then_ hf⟩
end Go.Proofs.YtllicaibgjjidaaDoor.Sin
