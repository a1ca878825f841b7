import Derived.Test.YtaenclbbiodhfaaScA
import Derived.RangeFuncNested
namespace Go.Proofs.Ytaenclbbiodhfaa
open Go.RowKit
attribute [local go_sem] Oper.semAt_some

/-- All commands (f: at least as many as there are bytes). -/
def cmdsF : Nat → List Nat → List Cm
  | 0, _ => []
  | _ + 1, [] => []
  | f + 1, b :: r => (cmd1 (b :: r)).1 :: cmdsF f ((b :: r).drop (cmd1 (b :: r)).2)
def cmds (l : List Nat) : List Cm := cmdsF l.length l
theorem cmd1_pos (b : Nat) (r : List Nat) : 1 ≤ (cmd1 (b :: r)).2 := by
  unfold cmd1
  split
  · rename_i h; cases h
  · rename_i h
    injection h with h1 h2
    subst h1 h2
    split
    · simp
    · split
      · simp
      · split <;> simp
theorem cmdsF_same : ∀ (f f' : Nat) (l : List Nat), l.length ≤ f → l.length ≤ f' → cmdsF f l = cmdsF f' l := by
  intro f
  induction f with
  | zero =>
    intro f' l h _
    have : l = [] := List.eq_nil_of_length_eq_zero (by omega)
    subst this
    cases f' <;> rfl
  | succ f ih =>
    intro f' l h h'
    cases l with
    | nil => cases f' <;> rfl
    | cons b r =>
      cases f' with
      | zero => simp at h'
      | succ f' =>
        have hp := cmd1_pos b r
        have hl : ((b :: r).drop (cmd1 (b :: r)).2).length ≤ r.length := by rw [List.length_drop, List.length_cons]; omega
        rw [List.length_cons] at h h'
        show _ :: cmdsF f _ = _ :: cmdsF f' _
        rw [ih f' _ (by omega) (by omega)]
theorem cmdsF_more (f : Nat) (l : List Nat) (h : l.length ≤ f) : cmdsF f l = cmdsF l.length l := cmdsF_same f l.length l h (Nat.le_refl _)
theorem cmds_nil : cmds [] = [] := rfl
theorem cmds_cons (b : Nat) (r : List Nat) : cmds (b :: r) = (cmd1 (b :: r)).1 :: cmds ((b :: r).drop (cmd1 (b :: r)).2) := by
  have hp := cmd1_pos b r
  have hl : ((b :: r).drop (cmd1 (b :: r)).2).length ≤ r.length := by rw [List.length_drop, List.length_cons]; omega
  show _ :: cmdsF r.length _ = _
  rw [cmdsF_more r.length _ hl]
  rfl
theorem cmds_len (l : List Nat) : (cmds l).length ≤ l.length := by
  have : ∀ (n : Nat) (l : List Nat), l.length ≤ n → (cmds l).length ≤ l.length := by
    intro n
    induction n with
    | zero =>
      intro l h
      have : l = [] := List.eq_nil_of_length_eq_zero (by omega)
      subst this
      exact Nat.le_refl _
    | succ n ih =>
      intro l h
      cases l with
      | nil => exact Nat.le_refl _
      | cons b r =>
        have hp := cmd1_pos b r
        rw [cmds_cons]
        have hl : ((b :: r).drop (cmd1 (b :: r)).2).length ≤ r.length := by rw [List.length_drop, List.length_cons]; omega
        have := ih _ (show ((b :: r).drop (cmd1 (b :: r)).2).length ≤ n by simp only [List.length_cons] at h; omega)
        simp only [List.length_cons]; omega
  exact this _ _ (Nat.le_refl _)
def cmArgs (x : Cm) : Array Value := #[.agg #[.int .u8 (x.k : Nat), .int .u64 (x.n : Nat)]]
set_option maxRecDepth 100000 in
set_option maxHeartbeats 2000000 in
theorem commands_seq (bb : Nat) (A : Option Addr) (n c : Nat) (l : List Nat) (T : Nat → Prop) (w : World) (hc : w.cell? ⟨bb, 0, none⟩ = some (.slice A n c)) (hf : w.frozen? ⟨bb, 0, none⟩ = false) (hr : Rd w w.heap.size 1 A n (by_ l)) (hnc : n ≤ c) (hn : (n : Int) ≤ 100000) (hu : ∀ m ∈ l, m ≤ 255)
    (hA : ∀ j, blk A j → j < w.heap.size ∧ ¬ T j ∧ j ≠ bb) (hT : ¬ T bb) :
    SeqC Try.prog 82 #[.pointer (some ⟨bb, 0, none⟩)] cmArgs (cmds l) (fun j => j = bb) T w := by
  intro lp J Jx W hW hsz hJ hJx hY h0
  have hbb := World.block_lt_of_cell? w _ hc
  simp only at hbb
  refine callsIn_of_wp Try.func82 rfl trivial ?_ rfl
  simp only [Try.ntmps82, List.size_toArray, List.length_cons, List.length_nil, Nat.reduceAdd, Nat.reduceSub, Array.replicate_succ, Array.replicate_zero, List.push_toArray, List.append_toArray, List.nil_append, List.cons_append]
  gi_wp2
  gi_loopw [4] (fun _ wr => ∃ (k : Nat) (rest : List Nat) (Ak : Option Addr) (m ck : Nat), wr.cell? ⟨bb, 0, none⟩ = some (.slice Ak m ck) ∧ wr.frozen? ⟨bb, 0, none⟩ = false ∧ Rd wr wr.heap.size 1 Ak m (by_ rest) ∧ m ≤ ck ∧ m ≤ n ∧ (∀ j, blk Ak j → blk A j) ∧ (∀ x ∈ rest, x ≤ 255) ∧ (cmds l).drop k = cmds rest ∧ k ≤ (cmds l).length ∧ J k wr ∧ W.heap.size ≤ wr.heap.size) (fun _ wr => match wr.cell? ⟨bb, 0, none⟩ with | some (.slice _ m _) => m | _ => 0)
  case atStart => exact ⟨0, l, A, n, c, hW.cell hc id, (hW.frozen (p := ⟨bb, 0, none⟩) hbb id).trans hf, hr.new_ hW, hnc, Nat.le_refl _, fun _ h => h, hu, rfl, Nat.zero_le _, h0, Nat.le_refl _⟩
  case round =>
    obtain ⟨k, rest, Ak, m, ck, hck, hfk, hrk, hmc, hmn, hbk, huk, hdk, hkl, hJk, hsk⟩ := hrel
    obtain ⟨hlen, hcells⟩ := Rd.by_ hrk
    cases rest with
    | nil =>
      have hm0 : m = 0 := hlen
      subst hm0
      have hkk : k = (cmds l).length := by
        rw [cmds_nil, List.drop_eq_nil_iff] at hdk
        omega
      have HKK := Lib.hid hkk
      clear hlen hkk hdk hcells
      gi_wp2
      go_end0
      exact ⟨⟨_, rfl⟩, .inl (HKK.out ▸ hJk)⟩
    | cons b r =>
      have hmp : 0 < m := by rw [hlen]; simp
      obtain ⟨g, off, rfl, hg, _⟩ := hcells hmp
      have hgA := hA g (hbk g ((blk_some _ _ _).2 rfl))
      have hF1 := first_any g off m ck b r wr hrk hmc (by omega) (huk b List.mem_cons_self) (fun x hx => huk x (List.mem_cons_of_mem _ hx))
      have hd1 := cmd1_pos b r
      rw [cmds_cons] at hdk
      have hk : k < (cmds l).length := by
        rcases Nat.lt_or_ge k (cmds l).length with h | h
        · exact h
        · rw [List.drop_eq_nil_of_le h] at hdk; cases hdk
      have hx : (cmds l)[k] = (cmd1 (b :: r)).1 := by
        rw [List.drop_eq_getElem_cons hk] at hdk
        injection hdk
      have hd2 : (cmds l).drop (k + 1) = cmds ((b :: r).drop (cmd1 (b :: r)).2) := by
        rw [List.drop_eq_getElem_cons hk] at hdk
        injection hdk
      obtain ⟨x, hxx⟩ : ∃ x, (cmd1 (b :: r)).1 = x := ⟨_, rfl⟩
      obtain ⟨d, hdd⟩ : ∃ d, (cmd1 (b :: r)).2 = d := ⟨_, rfl⟩
      rw [hxx] at hF1 hx
      rw [hdd] at hF1 hd1 hd2
      have HF1 := Lib.hid hF1
      have HX := Lib.hid hx
      have HD2 := Lib.hid hd2
      have m0 : (0 : Int) < (m : Int) := by omega
      have HDD := Lib.hid hdd
      clear hF1 hx hd2 hdk hxx hcells hlen hdd
      gi_wp2_with (refine ⟨trivial, rfl, ?_⟩; gi_at_call 83; refine (callsIn_wide.2 HF1.out).mono ?_; rintro e w2 ⟨A', c', rfl, hc', hA', hr', hf'⟩; have hck2 := hf'.cell hck id)
      have hfW : Frm wr (w2.alloc (.cells #[.int .u8 (x.k : Nat), .int .u64 (x.n : Nat)] 124)) (fun _ => False) := hf'.alloc _
      obtain ⟨fn, tmps, assign, body, hy, hR⟩ := hY k hk _ (hJ k wr _ hJk (hfW.none_ _)) (Nat.le_trans hsk hfW.size)
      rw [HX.out] at hy
      dsimp only [cmArgs] at hy
      rw [hy, Oper.uponIn_round]
      refine ⟨fun h => by simp [Fence.wide] at h, ?_⟩
      refine hR.mono ?_
      rintro e W3 (⟨rfl, hJ3, hk3⟩ | ⟨rfl, hJx3⟩)
      · have n3 : ¬ (T bb ∨ w.heap.size ≤ bb) := fun h => h.elim hT (fun h => by omega)
        have hc3 : W3.cell? ⟨bb, 0, none⟩ = some (.slice (some ⟨g, off, none⟩) m ck) := hk3.cell (hfW.cell hck id) n3
        have hl3 := World.block_lt_of_cell? wr _ hck
        have hf3 : W3.frozen? ⟨bb, 0, none⟩ = false := (hk3.frozen (p := ⟨bb, 0, none⟩) (Nat.lt_of_lt_of_le hl3 hfW.size) n3).trans ((hfW.frozen (p := ⟨bb, 0, none⟩) hl3 id).trans hfk)
        have hset : Frm W3 (W3.setCell ⟨bb, 0, none⟩ (.slice A' (m - d) c')) (fun j => j = bb) := (Frm.refl W3 (fun j => j = bb)).setCell (p := ⟨bb, 0, none⟩) (fun _ => rfl) _
        have hr3 := ((hr'.new_ ((Frm.refl w2 fun _ => False).alloc (.cells #[.int .u8 (x.k : Nat), .int .u64 (x.n : Nat)] 124))).frm hk3 (fun j hj h => by
          obtain rfl := hA' j hj
          exact h.elim hgA.2.1 (fun h => by have := hgA.1; omega))).frm hset (fun j hj h => by
          obtain rfl := hA' j hj
          exact hgA.2.2 h)
        gi_wp2
        go_roundw
        case rel => exact ⟨k + 1, (b :: r).drop d, A', m - d, c', World.cell?_setCell_same _ _ _ hc3, by rw [World.frozen?_setCell]; exact hf3, hr3, hc', by omega, fun j hj => by obtain rfl := hA' j hj; exact hbk j ((blk_some _ _ _).2 rfl), fun y hy => huk y (List.mem_of_mem_drop hy), HD2.out, hk, hJ _ _ _ hJ3 hset, Nat.le_trans hsk (Nat.le_trans hfW.size (Nat.le_trans hk3.size hset.size))⟩
        case measure =>
          rw [World.cell?_setCell_same _ _ _ hc3, hck]
          show m - d < m
          omega
      · gi_wp2
        refine bodyPost_ret (results_none rfl _ _ _) rfl ?_
        exact ⟨⟨_, rfl⟩, .inr ⟨k + 1, hk, hJx3⟩⟩
end Go.Proofs.Ytaenclbbiodhfaa
