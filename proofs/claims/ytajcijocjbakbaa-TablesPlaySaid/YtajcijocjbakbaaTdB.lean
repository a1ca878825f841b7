import Derived.Test.YtajcijocjbakbaaTdA
namespace Go.Proofs.Ytajcijocjbakbaa
open Go.RowKit

/-- A bucket of the document's set: where its cells lie. -/
theorem RSet.at {w : World} {B s : Nat} {T : Nat → RDt} {v : List Vt} (h : RSet w B s T v) {d i : Int} {k : Vk} (hk : vk v d i = some k) :
    ∃ (n m : Nat) (gq oq gt ot : Nat) (N cq ct : Nat) (hd : Hd), d = (n : Int) ∧ i = (m : Int) ∧ n < 9 ∧ m < N ∧ N ≤ 256 ∧ (T n).hq = ⟨some ⟨gq, oq, none⟩, N, cq⟩ ∧ (T n).ht = ⟨some ⟨gt, ot, none⟩, N, ct⟩ ∧ (T n).hs[m]? = some hd ∧ (vrow v n)[m]? = some k ∧
      w.cell? ⟨s, n, none⟩ = some (.slice (some ⟨gq, oq, none⟩) N cq) ∧ w.cell? ⟨s, 9 + n, none⟩ = some (.slice (some ⟨gt, ot, none⟩) N ct) ∧ w.cell? ⟨gq, oq + m, none⟩ = some hd.V ∧ w.frozen? ⟨gq, oq + m, none⟩ = false ∧
      w.cell? ⟨gt, ot + m * 2, none⟩ = some (.int .u64 k.1) ∧ w.cell? ⟨gt, ot + m * 2 + 1, none⟩ = some (.int .u64 k.2.1) ∧ (∀ j, w.frozen? ⟨gt, ot + j, none⟩ = false) ∧ gq < w.heap.size ∧ gt < w.heap.size := by
  obtain ⟨h0, bs, hg, hb⟩ := vk_some_iff hk
  have htb := (tbl_iff d).1 (h.ok d bs hg).1
  obtain ⟨n, rfl⟩ : ∃ n : Nat, d = n := ⟨d.toNat, by omega⟩
  obtain ⟨m, rfl⟩ : ∃ m : Nat, i = m := ⟨i.toNat, by omega⟩
  have hn9 : n < 9 := by omega
  rw [Int.toNat_natCast] at hb
  have hrow := vrow_some hg
  obtain ⟨hm, hke⟩ := List.getElem?_eq_some_iff.1 hb
  obtain ⟨n1, n2, n3⟩ := h.n n hn9
  have hq := h.q n hn9
  have ht := h.t n hn9
  have hc := h.cell n hn9
  obtain ⟨⟨Aq, N, cq⟩, hqe⟩ : ∃ x, (T n).hq = x := ⟨_, rfl⟩
  obtain ⟨⟨At, N', ct⟩, hte⟩ : ∃ x, (T n).ht = x := ⟨_, rfl⟩
  rw [hqe] at hq hc n1
  rw [hte] at ht hc n3
  rw [hrow] at n1 n2 n3 ht
  have n1 : N = bs.length := n1
  have n3 : N' = bs.length := n3
  obtain rfl : N' = N := by omega
  have hle := hq.le
  have hle' := ht.le
  obtain ⟨gq, oq, rfl, _, lq, cellq, frq⟩ := hq.form (show 0 < cq by have : N' ≤ cq := hle; omega)
  obtain ⟨gt, ot, rfl, _, lt, cellt, frt⟩ := ht.form (show 0 < ct by have : N' ≤ ct := hle'; omega)
  have hms : m < (T n).hs.length := by omega
  have f0 := flat_get (fun k : Vk => [Value.int .u64 k.1, Value.int .u64 k.2.1]) 2 (fun _ => rfl) bs m 0 hm (by decide)
  have f1 := flat_get (fun k : Vk => [Value.int .u64 k.1, Value.int .u64 k.2.1]) 2 (fun _ => rfl) bs m 1 hm (by decide)
  rw [hke] at f0 f1
  have c0 := cellt _ _ f0
  have c1 := cellt _ _ f1
  rw [Nat.add_zero] at c0
  rw [← Nat.add_assoc] at c1
  exact ⟨n, m, gq, oq, gt, ot, N', cq, ct, (T n).hs[m], rfl, rfl, hn9, by omega, by have := h.ok.few n; rw [hrow] at this; omega, hqe, hte, List.getElem?_eq_getElem hms, by rw [hrow]; exact hb, hc.1, hc.2,
    cellq m _ (by unfold hds; rw [List.getElem?_map, List.getElem?_eq_getElem hms]; rfl), frq m, c0, c1, frt, lq, lt⟩
set_option maxRecDepth 100000 in
theorem rqueue_any (B s : Nat) (T : Nat → RDt) (v : List Vt) (d i : Int) (w : World) (h : RSet w B s T v) :
    Calls Try.prog 43 #[.pointer (some ⟨s, 0, none⟩), plV d i] w fun e w' => ∃ A c, e = .returned (.slice A (vq v d i).length c) ∧ Rd w' w'.heap.size 3 A (vq v d i).length (ens (vq v d i)) ∧ Frm w w' fun _ => False := by
  have HTH := Lib.hid (fun V (hf : Frm w V fun _ => False) => rthere_any B s T v d i V (h.new_ hf))
  cases hk : vk v d i with
  | none =>
    rw [hk, Option.isSome_none] at HTH
    have hq : vq v d i = [] := by unfold vq; rw [hk]; rfl
    rw [hq]
    clear h hk hq
    go_enter Try.func43, Try.ntmps43
    go_wp2_with (go_at_call 51; refine (HTH.out _ ((Frm.refl _ _).alloc _)).mono ?_; rintro e w2 ⟨rfl, hf⟩; have F := Lib.hid (((Frm.refl w fun _ => False).alloc (.cells #[.int .i64 d, .int .i64 i] 89)).then_ hf); clear hf)
    go_ret
    exact ⟨none, 0, rfl, Rd.nil _ _ _ _, F.out⟩
  | some k =>
    rw [hk, Option.isSome_some] at HTH
    have hq : vq v d i = k.2.2 := by unfold vq; rw [hk]; rfl
    rw [hq]
    obtain ⟨n, m, gq, oq, gt, ot, N, cq, ct, ⟨A, x, c⟩, rfl, rfl, hn9, hmN, hN, -, -, hhs, hrow, c0, -, c1, -, -, -, -, -, -⟩ := h.at hk
    have hr := h.r n hn9 m _ k hhs hrow
    have hr : Rd w w.heap.size 3 A x (ens k.2.2) := hr
    have hx := (Rd.ens hr).1
    rw [← hx]
    have HR := Lib.hid hr
    have c1 : w.cell? ⟨gq, oq + m, none⟩ = some (.slice A x c) := c1
    have n0 : (0 : Int) ≤ (n : Int) := by omega
    have n9 : (n : Int) < 9 := by omega
    have m0 : (0 : Int) ≤ (m : Int) := by omega
    have m1 : (m : Int) < (N : Int) := by omega
    have HC := Lib.hid (And.intro c0 c1)
    clear h hk hq hr hx hhs hrow c0 c1
    go_enter Try.func43, Try.ntmps43
    go_wp2_with (go_at_call 51; refine (HTH.out _ ((Frm.refl _ _).alloc _)).mono ?_; rintro e w2 ⟨rfl, hf⟩; have q0 := hf.cell (p := ⟨w.heap.size, 0, none⟩) (v := .int .i64 (n : Nat)) (by go_simp) id; have q1 := hf.cell (p := ⟨w.heap.size, 1, none⟩) (v := .int .i64 (m : Nat)) (by go_simp) id; have F := Lib.hid (((Frm.refl w fun _ => False).alloc (.cells #[.int .i64 (n : Nat), .int .i64 (m : Nat)] 89)).then_ hf); clear hf)
    have c0 := Grown.cell (F.out.cell HC.out.1 id)
    have c1 := Grown.cell (F.out.cell HC.out.2 id)
    replace q0 := Grown.cell q0
    replace q1 := Grown.cell q1
    refine wp_region_grown w2 (Frm.refl _ _) (by kernel_rfl) (by kernel_rfl) ?_
    repeat (go_big_quiet_step (fail))
    refine wpQuiet_nil ?_
    intro wq hq
    have F2 := Lib.hid (F.out.then_ hq)
    clear hq q0 q1 c0 c1
    go_wp2_with fail
    go_ret
    exact ⟨A, c, rfl, HR.out.new_ F2.out, F2.out⟩
set_option maxRecDepth 100000 in
theorem rtimer_any (B s : Nat) (T : Nat → RDt) (v : List Vt) (d i : Int) (w : World) (h : RSet w B s T v) :
    Calls Try.prog 44 #[.pointer (some ⟨s, 0, none⟩), plV d i] w fun e w' => e = .returned (tmV (vtm v d i).1 (vtm v d i).2) ∧ Frm w w' fun _ => False := by
  have HTH := Lib.hid (fun V (hf : Frm w V fun _ => False) => rthere_any B s T v d i V (h.new_ hf))
  cases hk : vk v d i with
  | none =>
    rw [hk, Option.isSome_none] at HTH
    have hq : vtm v d i = (0, 0) := by unfold vtm; rw [hk]; rfl
    rw [hq]
    clear h hk hq
    go_enter Try.func44, Try.ntmps44
    go_wp2_with fail
    refine (HTH.out _ (((Frm.refl _ _).alloc _).alloc _)).mono ?_
    rintro e w2 ⟨rfl, hf⟩
    have q0 := hf.cell (p := ⟨w.heap.size, 0, none⟩) (v := .int .i64 d) (by go_simp) id
    have q1 := hf.cell (p := ⟨w.heap.size, 1, none⟩) (v := .int .i64 i) (by go_simp) id
    have x0 := hf.cell (p := ⟨w.heap.size + 1, 0, none⟩) (v := .int .u64 0) (by go_simp) id
    have x1 := hf.cell (p := ⟨w.heap.size + 1, 1, none⟩) (v := .int .u64 0) (by go_simp) id
    have y0 : w2.frozen? ⟨w.heap.size + 1, 0, none⟩ = false := (hf.frozen (p := ⟨w.heap.size + 1, 0, none⟩) (by simp) id).trans (by go_simp)
    have y1 : w2.frozen? ⟨w.heap.size + 1, 1, none⟩ = false := (hf.frozen (p := ⟨w.heap.size + 1, 1, none⟩) (by simp) id).trans (by go_simp)
    have F := Lib.hid ((((Frm.refl w fun _ => False).alloc (.cells #[.int .i64 d, .int .i64 i] 89)).alloc (.cells #[.int .u64 0, .int .u64 0] 96)).then_ hf)
    clear hf
    go_wp2_with fail
    refine bodyPost_ret (v := tmV 0 0) (by simp [results, Try.results44, go_sem, x0, x1]) rfl ⟨rfl, ?_⟩
    exact (F.out.setCell (p := ⟨w.heap.size + 1, 0, none⟩) (fun h => absurd h (by simp)) _).setCell (p := ⟨w.heap.size + 1, 1, none⟩) (fun h => absurd h (by simp)) _
  | some k =>
    rw [hk, Option.isSome_some] at HTH
    have hq : vtm v d i = (k.1, k.2.1) := by unfold vtm; rw [hk]; rfl
    rw [hq]
    obtain ⟨n, m, gq, oq, gt, ot, N, cq, ct, -, rfl, rfl, hn9, hmN, hN, -, -, -, -, -, c0, -, -, c1, c2, -, -, -⟩ := h.at hk
    have n0 : (0 : Int) ≤ (n : Int) := by omega
    have n9 : (n : Int) < 9 := by omega
    have m0 : (0 : Int) ≤ (m : Int) := by omega
    have m1 : (m : Int) < (N : Int) := by omega
    have HC := Lib.hid (And.intro c0 (And.intro c1 c2))
    obtain ⟨ka, kb, kq⟩ := k
    clear h hk hq c0 c1 c2
    go_enter Try.func44, Try.ntmps44
    go_wp2_with fail
    refine (HTH.out _ (((Frm.refl _ _).alloc _).alloc _)).mono ?_
    rintro e w2 ⟨rfl, hf⟩
    have q0 := hf.cell (p := ⟨w.heap.size, 0, none⟩) (v := .int .i64 (n : Nat)) (by go_simp) id
    have q1 := hf.cell (p := ⟨w.heap.size, 1, none⟩) (v := .int .i64 (m : Nat)) (by go_simp) id
    have x0 := hf.cell (p := ⟨w.heap.size + 1, 0, none⟩) (v := .int .u64 0) (by go_simp) id
    have x1 := hf.cell (p := ⟨w.heap.size + 1, 1, none⟩) (v := .int .u64 0) (by go_simp) id
    have y0 : w2.frozen? ⟨w.heap.size + 1, 0, none⟩ = false := (hf.frozen (p := ⟨w.heap.size + 1, 0, none⟩) (by simp) id).trans (by go_simp)
    have y1 : w2.frozen? ⟨w.heap.size + 1, 1, none⟩ = false := (hf.frozen (p := ⟨w.heap.size + 1, 1, none⟩) (by simp) id).trans (by go_simp)
    have F := Lib.hid ((((Frm.refl w fun _ => False).alloc (.cells #[.int .i64 (n : Nat), .int .i64 (m : Nat)] 89)).alloc (.cells #[.int .u64 0, .int .u64 0] 96)).then_ hf)
    clear hf
    have c0 := F.out.cell HC.out.1 id
    have c1 := F.out.cell HC.out.2.1 id
    have c2 := F.out.cell HC.out.2.2 id
    go_wp2_with fail
    go_region
    go_wp2_with fail
    refine bodyPost_ret (v := tmV ka kb) (by simp [results, Try.results44, go_sem, x0, x1]) rfl ⟨rfl, ?_⟩
    exact ((F.out.setCell (p := ⟨w.heap.size + 1, 0, none⟩) (fun h => absurd h (by simp)) _).setCell (p := ⟨w.heap.size + 1, 1, none⟩) (fun h => absurd h (by simp)) _).drew
end Go.Proofs.Ytajcijocjbakbaa
