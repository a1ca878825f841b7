import Derived.Test.YtajcijocjbakbaaTbX
namespace Go.Proofs.Ytajcijocjbakbaa
open Go.RowKit

/-! ### the document's set -/
/-- What stands for one number of bits: the queues' header, the queues' headers, the timers' header. -/
structure RDt where
  hq : Hd
  hs : List Hd
  ht : Hd
def tmc (bs : List Vk) : List Value := bs.flatMap fun k => [.int .u64 k.1, .int .u64 k.2.1]
theorem tmc_len (bs : List Vk) : (tmc bs).length = bs.length * 2 := flat_len _ 2 (fun _ => rfl) bs
/-- Tables have the size that their bits tell. -/
def VOk (v : List Vt) : Prop := ∀ d bs, vget v d = some bs → tbl d = true ∧ bs.length = sz d
structure RSet (w : World) (B s : Nat) (T : Nat → RDt) (v : List Vt) : Prop where
  cell : ∀ d : Nat, d < 9 → w.cell? ⟨s, d, none⟩ = some (T d).hq.V ∧ w.cell? ⟨s, 9 + d, none⟩ = some (T d).ht.V
  free : ∀ j, w.frozen? ⟨s, j, none⟩ = false
  low : B ≤ s ∧ s < w.heap.size
  q : ∀ d : Nat, d < 9 → Sl w B 1 (T d).hq.A (T d).hq.n (T d).hq.c (hds (T d).hs)
  t : ∀ d : Nat, d < 9 → Sl w B 2 (T d).ht.A (T d).ht.n (T d).ht.c (tmc (vrow v d))
  n : ∀ d : Nat, d < 9 → (T d).hq.n = (vrow v d).length ∧ (T d).hs.length = (vrow v d).length ∧ (T d).ht.n = (vrow v d).length
  r : ∀ d : Nat, d < 9 → ∀ (i : Nat) (h : Hd) (k : Vk), (T d).hs[i]? = some h → (vrow v d)[i]? = some k → Rd w w.heap.size 3 h.A h.n (ens k.2.2)
  rb : ∀ d : Nat, d < 9 → ∀ h ∈ (T d).hs, ∀ j, blk h.A j → B ≤ j ∧ j < w.heap.size ∧ j ≠ s ∧ ∀ e : Nat, e < 9 → ¬ blk (T e).hq.A j ∧ ¬ blk (T e).ht.A j
  ds : ∀ d : Nat, d < 9 → (¬ blk (T d).hq.A s) ∧ ¬ blk (T d).ht.A s
  dq : ∀ d : Nat, d < 9 → ∀ e : Nat, e < 9 → ∀ j, blk (T d).hq.A j → (d ≠ e → ¬ blk (T e).hq.A j) ∧ ¬ blk (T e).ht.A j
  dt : ∀ d : Nat, d < 9 → ∀ e : Nat, e < 9 → d ≠ e → ∀ j, blk (T d).ht.A j → ¬ blk (T e).ht.A j
  ok : VOk v
def ROwn (s : Nat) (T : Nat → RDt) (j : Nat) : Prop := j = s ∨ ∃ d : Nat, d < 9 ∧ (blk (T d).hq.A j ∨ blk (T d).ht.A j ∨ ∃ h ∈ (T d).hs, blk h.A j)
section
variable {w w' : World} {B s : Nat} {T : Nat → RDt} {v : List Vt} {S : Nat → Prop}
theorem RSet.lt (h : RSet w B s T v) {j : Nat} (hj : ROwn s T j) : B ≤ j ∧ j < w.heap.size := by
  rcases hj with rfl | ⟨d, hd, hj | hj | ⟨x, hx, hj⟩⟩
  · exact h.low
  · exact (h.q d hd).ge hj
  · exact (h.t d hd).ge hj
  · exact ⟨(h.rb d hd x hx j hj).1, (h.rb d hd x hx j hj).2.1⟩
theorem RSet.frm (h : RSet w B s T v) (hf : Frm w w' S) (hS : ∀ j, ROwn s T j → ¬ S j) : RSet w' B s T v :=
  ⟨fun d hd => ⟨hf.cell (h.cell d hd).1 (hS s (.inl rfl)), hf.cell (h.cell d hd).2 (hS s (.inl rfl))⟩,
   fun j => (hf.frozen (p := ⟨s, j, none⟩) h.low.2 (hS s (.inl rfl))).trans (h.free j),
   ⟨h.low.1, Nat.lt_of_lt_of_le h.low.2 hf.size⟩,
   fun d hd => (h.q d hd).frm hf fun j hj => hS j (.inr ⟨d, hd, .inl hj⟩),
   fun d hd => (h.t d hd).frm hf fun j hj => hS j (.inr ⟨d, hd, .inr (.inl hj)⟩),
   h.n,
   fun d hd i x k hx hk => (h.r d hd i x k hx hk).frm hf fun j hj => hS j (.inr ⟨d, hd, .inr (.inr ⟨x, List.mem_of_getElem? hx, hj⟩)⟩),
   fun d hd x hx j hj => ⟨(h.rb d hd x hx j hj).1, Nat.lt_of_lt_of_le (h.rb d hd x hx j hj).2.1 hf.size, (h.rb d hd x hx j hj).2.2⟩,
   h.ds, h.dq, h.dt, h.ok⟩
theorem RSet.new_ (h : RSet w B s T v) (hf : Frm w w' fun _ => False) : RSet w' B s T v := h.frm hf fun _ _ => id
theorem vrow_none {v : List Vt} {d : Int} (h : vget v d = none) : vrow v d = [] := by unfold vrow; rw [h]; rfl
theorem vrow_some {v : List Vt} {d : Int} {bs : List Vk} (h : vget v d = some bs) : vrow v d = bs := by unfold vrow; rw [h]; rfl
theorem VOk.few {v : List Vt} (h : VOk v) (d : Int) : (vrow v d).length ≤ 256 := by
  cases hg : vget v d with
  | none => rw [vrow_none hg]; simp
  | some bs => rw [vrow_some hg, (h d bs hg).2]; exact sz_le _
end
set_option maxRecDepth 100000 in
theorem rhas_any (B s : Nat) (T : Nat → RDt) (v : List Vt) (d : Int) (w : World) (h : RSet w B s T v) :
    Calls Try.prog 45 #[.pointer (some ⟨s, 0, none⟩), .int .i64 d] w fun e w' => e = .returned (.bool (vget v d).isSome) ∧ w = w' := by
  by_cases h2 : 2 ≤ d
  · by_cases h8 : d ≤ 8
    · obtain ⟨n, rfl⟩ : ∃ n : Nat, d = n := ⟨d.toNat, by omega⟩
      have hn9 : n < 9 := by omega
      have hc := (h.cell n hn9).2
      have hl := (h.n n hn9).2.2
      have hiff : decide ((0 : Int) < ((T n).ht.n : Int)) = (vget v n).isSome := by
        cases hg : vget v n with
        | none => rw [hl, vrow_none hg]; rfl
        | some bs =>
          obtain ⟨h1, h3⟩ := h.ok n bs hg
          rw [hl, vrow_some hg, h3]
          have := sz_ge h1
          simp
          omega
      obtain ⟨⟨A, m, c⟩, ht⟩ : ∃ x, (T n).ht = x := ⟨_, rfl⟩
      rw [ht] at hc hiff
      rw [← hiff]
      have n0 : (0 : Int) ≤ (n : Int) := by omega
      have n9 : (n : Int) < 9 := by omega
      have hc : w.cell? ⟨s, 9 + n, none⟩ = some (.slice A m c) := hc
      have g1 : decide ((2 : Int) ≤ (n : Int)) = true := by rw [decide_eq_true_eq]; exact h2
      have g2 : decide ((n : Int) ≤ 8) = true := by rw [decide_eq_true_eq]; exact h8
      clear h hl hiff ht
      go_enter Try.func45, Try.ntmps45
      go_wp2
      go_ret
      exact ⟨by simp, rfl⟩
    · have hv : vget v d = none := by
        cases hg : vget v d with
        | none => rfl
        | some bs => have := (tbl_iff d).1 (h.ok d bs hg).1; omega
      have g1 : decide ((2 : Int) ≤ d) = true := by rw [decide_eq_true_eq]; exact h2
      have g2 : decide (d ≤ 8) = false := by rw [decide_eq_false_iff_not]; exact h8
      rw [hv]
      clear h hv
      go_enter Try.func45, Try.ntmps45
      go_wp2
      go_ret
      exact ⟨rfl, rfl⟩
  · have hv : vget v d = none := by
      cases hg : vget v d with
      | none => rfl
      | some bs => have := (tbl_iff d).1 (h.ok d bs hg).1; omega
    have g1 : decide ((2 : Int) ≤ d) = false := by rw [decide_eq_false_iff_not]; exact h2
    rw [hv]
    clear h hv
    go_enter Try.func45, Try.ntmps45
    go_wp2
    go_ret
    exact ⟨rfl, rfl⟩
theorem vk_neg {v : List Vt} {d i : Int} (h : i < 0) : vk v d i = none := by unfold vk; rw [if_neg (by omega)]
set_option maxRecDepth 100000 in
theorem rthere_any (B s : Nat) (T : Nat → RDt) (v : List Vt) (d i : Int) (w : World) (h : RSet w B s T v) :
    Calls Try.prog 51 #[.pointer (some ⟨s, 0, none⟩), plV d i] w fun e w' => e = .returned (.bool (vk v d i).isSome) ∧ Frm w w' fun _ => False := by
  have HAS := Lib.hid (fun V (hf : Frm w V fun _ => False) => rhas_any B s T v d V (h.new_ hf))
  cases hg : vget v d with
  | none =>
    have hv : vk v d i = none := by unfold vk; rw [hg]; split <;> rfl
    rw [hv, Option.isSome_none]
    rw [hg, Option.isSome_none] at HAS
    clear h hg hv
    go_enter Try.func51, Try.ntmps51
    go_wp2_with fail
    refine at_world' ?_
    intro W hW
    have hF : Frm w W fun _ => False := by rw [hW]; exact (Frm.refl _ _).alloc _
    have p0 : W.cell? ⟨w.heap.size, 0, none⟩ = some (.int .i64 d) := by rw [hW, World.cell?_alloc_new]; rfl
    have p1 : W.cell? ⟨w.heap.size, 1, none⟩ = some (.int .i64 i) := by rw [hW, World.cell?_alloc_new]; rfl
    have HAF := Lib.hid (fun F : Grown W => HAS.out F.1 (hF.then_ F.2))
    replace p0 := Grown.cell p0
    replace p1 := Grown.cell p1
    clear hW
    refine wp_region_grown W (Frm.refl _ _) (by kernel_rfl) (by kernel_rfl) ?_
    repeat (go_big_quiet_step ((go_at_call 45; refine Calls.grown_same (HAF.out _))))
    refine wpQuiet_nil ?_
    intro wq hq
    have F2 := Lib.hid (hF.then_ hq)
    clear hq p0 p1
    go_wp2_with fail
    go_ret
    exact ⟨rfl, F2.out⟩
  | some bs =>
    rw [hg, Option.isSome_some] at HAS
    obtain ⟨ht, hsz⟩ := h.ok d bs hg
    have hd := (tbl_iff d).1 ht
    obtain ⟨n, rfl⟩ : ∃ n : Nat, d = n := ⟨d.toNat, by omega⟩
    have hn9 : n < 9 := by omega
    by_cases hi : i < 0
    · rw [vk_neg hi, Option.isSome_none]
      have e0 : decide ((0 : Int) ≤ i) = false := by rw [decide_eq_false_iff_not]; omega
      clear h hg ht hsz
      go_enter Try.func51, Try.ntmps51
      go_wp2_with fail
      refine at_world' ?_
      intro W hW
      have hF : Frm w W fun _ => False := by rw [hW]; exact (Frm.refl _ _).alloc _
      have p0 : W.cell? ⟨w.heap.size, 0, none⟩ = some (.int .i64 (n : Nat)) := by rw [hW, World.cell?_alloc_new]; rfl
      have p1 : W.cell? ⟨w.heap.size, 1, none⟩ = some (.int .i64 i) := by rw [hW, World.cell?_alloc_new]; rfl
      have HAF := Lib.hid (fun F : Grown W => HAS.out F.1 (hF.then_ F.2))
      replace p0 := Grown.cell p0
      replace p1 := Grown.cell p1
      clear hW
      refine wp_region_grown W (Frm.refl _ _) (by kernel_rfl) (by kernel_rfl) ?_
      repeat (go_big_quiet_step ((go_at_call 45; refine Calls.grown_same (HAF.out _))))
      refine wpQuiet_nil ?_
      intro wq hq
      have F2 := Lib.hid (hF.then_ hq)
      clear hq p0 p1
      go_wp2_with fail
      go_ret
      exact ⟨rfl, F2.out⟩
    · obtain ⟨k, rfl⟩ : ∃ k : Nat, i = k := ⟨i.toNat, by omega⟩
      have hc := (h.cell n hn9).2
      have hl := (h.n n hn9).2.2
      rw [vrow_some hg] at hl
      obtain ⟨⟨A, m, c⟩, hte⟩ : ∃ x, (T n).ht = x := ⟨_, rfl⟩
      rw [hte] at hc hl
      replace hc : w.cell? ⟨s, 9 + n, none⟩ = some (.slice A m c) := hc
      have hl : m = bs.length := hl
      have hb : (vk v n k).isSome = decide ((k : Int) < (m : Int)) := by
        unfold vk
        rw [if_pos (by omega), hg, hl]
        show (bs[(k : Int).toNat]?).isSome = _
        rw [Int.toNat_natCast]
        by_cases hk : k < bs.length
        · rw [List.getElem?_eq_getElem hk]; simp; omega
        · rw [List.getElem?_eq_none (by omega)]; simp; omega
      rw [hb]
      have e0 : decide ((0 : Int) ≤ (k : Int)) = true := by rw [decide_eq_true_eq]; omega
      have n0 : (0 : Int) ≤ (n : Int) := by omega
      have n9 : (n : Int) < 9 := by omega
      subst hl
      obtain ⟨m, hm⟩ : ∃ m, bs.length = m := ⟨_, rfl⟩
      rw [hm] at hc ⊢
      clear h hg ht hsz hte hb hm
      go_enter Try.func51, Try.ntmps51
      go_wp2_with fail
      refine at_world' ?_
      intro W hW
      have hF : Frm w W fun _ => False := by rw [hW]; exact (Frm.refl _ _).alloc _
      have p0 : W.cell? ⟨w.heap.size, 0, none⟩ = some (.int .i64 (n : Nat)) := by rw [hW, World.cell?_alloc_new]; rfl
      have p1 : W.cell? ⟨w.heap.size, 1, none⟩ = some (.int .i64 (k : Nat)) := by rw [hW, World.cell?_alloc_new]; rfl
      have HAF := Lib.hid (fun F : Grown W => HAS.out F.1 (hF.then_ F.2))
      replace hc := Grown.cell (hF.cell hc id)
      replace p0 := Grown.cell p0
      replace p1 := Grown.cell p1
      clear hW
      refine wp_region_grown W (Frm.refl _ _) (by kernel_rfl) (by kernel_rfl) ?_
      repeat (go_big_quiet_step ((go_at_call 45; refine Calls.grown_same (HAF.out _))))
      refine wpQuiet_nil ?_
      intro wq hq
      have F2 := Lib.hid (hF.then_ hq)
      clear hq p0 p1
      go_wp2_with fail
      go_ret
      exact ⟨by simp, F2.out⟩
end Go.Proofs.Ytajcijocjbakbaa
