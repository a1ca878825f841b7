import Derived.Test.YtajcijocjbakbaaTbN
import Derived.Test.YtajcijocjbakbaaTbO
import Derived.Test.YtajcijocjbakbaaTbP
namespace Go.Proofs.Ytajcijocjbakbaa
open Go.RowKit

/-! ### a set, by what is seen of it -/
def vk (v : List Vt) (d i : Int) : Option Vk := if 0 ≤ i then (vget v d).bind (·[i.toNat]?) else none
def vq (v : List Vt) (d i : Int) : List En := ((vk v d i).map (·.2.2)).getD []
def vtm (v : List Vt) (d i : Int) : Int × Int := ((vk v d i).map fun k => (k.1, k.2.1)).getD (0, 0)
def vput (v : List Vt) (d : Int) (i : Nat) (k : Vk) : List Vt := v.map fun p => if p.1 = d then (p.1, p.2.set i k) else p
def vputq (v : List Vt) (d i : Int) (q : List En) : List Vt := match vk v d i with | some k => vput v d i.toNat (k.1, k.2.1, q) | none => v
def vputt (v : List Vt) (d i : Int) (a f : Int) : List Vt := match vk v d i with | some k => vput v d i.toNat (a, f, k.2.2) | none => v
def vcan (v : List Vt) (d e : Int) : Bool := (vget v d).isSome && !(vget v e).isSome && decide (d < e) && tbl e
def vclr (v : List Vt) (d : Int) : List Vt := v.map fun p => if p.1 = d then (p.1, p.2.map fun k => (k.1, k.2.1, [])) else p
def vgrow (v : List Vt) (d e now : Int) : List Vt := if vcan v d e then vclr v d ++ [(e, vbegun now (rehash e.toNat ((vrow v d).map (·.2.2))))] else v
def vnew (now : Int) : List Vt := [(2, vbegun now (List.replicate 4 []))]
/-- Few entries in each table. -/
def VFew (v : List Vt) : Prop := ∀ d, ((vrow v d).flatMap (·.2.2)).length ≤ 4000
/-- A set of tables behind a pointer, within the blocks of O. -/
structure SetV (w : World) (B s : Nat) (O : Nat → Prop) (v : List Vt) : Prop where
  ex : ∃ b ts, TSet w B s b ts ∧ vw ts = v ∧ ∀ j, TOwn s b ts j → O j
section
variable {w w' : World} {B s : Nat} {O S : Nat → Prop} {v : List Vt}
theorem SetV.frm (h : SetV w B s O v) (hf : Frm w w' S) (hS : ∀ j, O j → ¬ S j) : SetV w' B s O v := by
  obtain ⟨b, ts, hT, hv, hO⟩ := h.ex
  exact ⟨b, ts, hT.frm hf fun j hj => hS j (hO j hj), hv, hO⟩
theorem SetV.new_ (h : SetV w B s O v) (hf : Frm w w' fun _ => False) : SetV w' B s O v := h.frm hf fun _ _ => id
theorem SetV.sub {O' : Nat → Prop} (h : SetV w B s O v) (hO' : ∀ j, B ≤ j → j < w.heap.size → O j → O' j) : SetV w B s O' v := by
  obtain ⟨b, ts, hT, hv, hO⟩ := h.ex
  exact ⟨b, ts, hT, hv, fun j hj => hO' j (hT.lt hj).1 (hT.lt hj).2 (hO j hj)⟩
theorem SetV.ptr (h : SetV w B s O v) : ∃ b, w.cell? ⟨s, 0, none⟩ = some (.map (some b)) := by
  obtain ⟨b, ts, hT, hv, hO⟩ := h.ex
  exact ⟨b, hT.ptr⟩
theorem vget_some {ts : List Tb} {d : Int} {t : Tb} (h : tget ts d = some t) : vget (vw ts) d = some (t.bs.map Bk.v) := by rw [vget_vw, h]; rfl
theorem vget_none {ts : List Tb} {d : Int} (h : tget ts d = none) : vget (vw ts) d = none := by rw [vget_vw, h]; rfl
theorem vk_some {ts : List Tb} {d : Int} {t : Tb} (h : tget ts d = some t) {i : Nat} {k : Bk} (hk : t.bs[i]? = some k) : vk (vw ts) d i = some k.v := by
  unfold vk
  rw [if_pos (by omega), vget_some h]
  simp [hk]
theorem vk_none {ts : List Tb} {d : Int} (h : tget ts d = none) (i : Int) : vk (vw ts) d i = none := by
  unfold vk
  rw [vget_none h]
  split <;> rfl
theorem vk_out {ts : List Tb} {d : Int} {t : Tb} (h : tget ts d = some t) {i : Int} (hi : i < 0 ∨ (t.bs.length : Int) ≤ i) : vk (vw ts) d i = none := by
  unfold vk
  rw [vget_some h]
  split
  · simp
    omega
  · rfl
theorem has_v (h : SetV w B s O v) (d : Int) : Calls Try.prog 10 #[.pointer (some ⟨s, 0, none⟩), .int .i64 d] w fun e w' => e = .returned (.bool (vget v d).isSome) ∧ w = w' := by
  obtain ⟨b, ts, hT, rfl, hO⟩ := h.ex
  have := has_any B s b ts d w hT
  rw [vget_vw, Option.isSome_map]
  exact this
/-- Is there such a bucket? -/
theorem bucket_cases (ts : List Tb) (d i : Int) : (vk (vw ts) d i = none ∧ ∀ (w : World) (B s b : Nat), TSet w B s b ts → ∀ V, (Frm w V fun _ => False) → Calls Try.prog 28 #[.pointer (some ⟨s, 0, none⟩), plV d i] V fun e w' => e = .returned (.pointer none) ∧ Frm V w' fun _ => False) ∨
    ∃ t k, ∃ n : Nat, i = (n : Int) ∧ tget ts d = some t ∧ t.bs[n]? = some k ∧ vk (vw ts) d i = some k.v := by
  cases ht : tget ts d with
  | none => exact .inl ⟨vk_none ht i, fun w B s b hT V hf => at_no B s b ts d i V (hT.new_ hf) ht⟩
  | some t =>
    by_cases hi : i < 0 ∨ (t.bs.length : Int) ≤ i
    · exact .inl ⟨vk_out ht hi, fun w B s b hT V hf => at_out B s b ts t d i V (hT.new_ hf) ht hi⟩
    · obtain ⟨n, rfl⟩ : ∃ n : Nat, i = n := ⟨i.toNat, by omega⟩
      have hn : n < t.bs.length := by omega
      exact .inr ⟨t, t.bs[n], n, rfl, rfl, List.getElem?_eq_getElem hn, vk_some ht (List.getElem?_eq_getElem hn)⟩
theorem vk_few {v : List Vt} (hv : VFew v) {d i : Int} {k : Vk} (hk : vk v d i = some k) : k.2.2.length ≤ 4000 := by
  refine Nat.le_trans ?_ (hv d)
  unfold vk at hk
  split at hk
  · unfold vrow
    cases hg : vget v d with
    | none => rw [hg] at hk; cases hk
    | some bs =>
      rw [hg] at hk
      have hk : bs[i.toNat]? = some k := hk
      have hm : k.2.2 ∈ bs.map (·.2.2) := List.mem_map.2 ⟨k, List.mem_of_getElem? hk, rfl⟩
      rw [List.flatMap_def]
      exact (List.sublist_flatten_of_mem hm).length_le
  · cases hk
theorem hd_len {w : World} {B : Nat} {k : Bk} (h : Sl w B 3 k.hd.A k.hd.n k.hd.c (ens k.q)) : k.hd.n = k.q.length := (Rd.ens h.rd).1
theorem queue_v (h : SetV w B s O v) (hv : VFew v) (d i : Int) : Calls Try.prog 25 #[.pointer (some ⟨s, 0, none⟩), plV d i] w fun e w' => ∃ A', e = .returned (.slice A' (vq v d i).length (vq v d i).length) ∧ Sl w' w.heap.size 3 A' (vq v d i).length (vq v d i).length (ens (vq v d i)) ∧ Frm w w' fun _ => False := by
  obtain ⟨b, ts, hT, rfl, hO⟩ := h.ex
  rcases bucket_cases ts d i with ⟨hk, hat⟩ | ⟨t, k, n, rfl, ht, hb, hk⟩
  · have e : vq (vw ts) d i = [] := by unfold vq; rw [hk]; rfl
    rw [e]
    refine (queue_no _ d i w (hat w B s b hT)).mono ?_
    rintro _ w' ⟨rfl, hf⟩
    exact ⟨none, rfl, Sl.nil _ _ _, hf⟩
  · have e : vq (vw ts) d n = k.q := by unfold vq; rw [hk]; rfl
    rw [e]
    have hq := vk_few hv hk
    have hl := hd_len (hT.qs t (tget_some ht).1 k (List.mem_of_getElem? hb)).1
    have hq : k.q.length ≤ 4000 := hq
    refine (queue_in B s b ts t k d n w hT ht hb (by omega)).mono ?_
    rintro _ w' ⟨A', rfl, hS, hf⟩
    rw [hl] at hS ⊢
    exact ⟨A', rfl, hS, hf⟩
theorem timer_v (h : SetV w B s O v) (d i : Int) : Calls Try.prog 12 #[.pointer (some ⟨s, 0, none⟩), plV d i] w fun e w' => e = .returned (tmV (vtm v d i).1 (vtm v d i).2) ∧ Frm w w' fun _ => False := by
  obtain ⟨b, ts, hT, rfl, hO⟩ := h.ex
  rcases bucket_cases ts d i with ⟨hk, hat⟩ | ⟨t, k, n, rfl, ht, hb, hk⟩
  · have e : vtm (vw ts) d i = (0, 0) := by unfold vtm; rw [hk]; rfl
    rw [e]
    exact timer_no _ d i w (hat w B s b hT)
  · have e : vtm (vw ts) d n = (k.at_, k.fired) := by unfold vtm; rw [hk]; rfl
    rw [e]
    exact timer_in B s b ts t k d n w hT ht hb
theorem vw_tput (ts : List Tb) (d : Int) (i : Nat) (k : Bk) : vw (tput ts d i k) = vput (vw ts) d i k.v := by
  unfold vw tput vput
  rw [List.map_map, List.map_map]
  refine List.map_congr_left fun t _ => ?_
  show Tb.v (if t.d = d then { t with bs := t.bs.set i k } else t) = if t.d = d then _ else _
  split
  · unfold Tb.v; simp [List.map_set]
  · rfl
theorem TOwn.tput {s b : Nat} {ts : List Tb} {d : Int} {i : Nat} {k : Bk} {j : Nat} (h : TOwn s b (tput ts d i k) j) : TOwn s b ts j ∨ blk k.hd.A j := by
  rcases h with h | h | ⟨t, ht, h⟩ | ⟨t, ht, k', hk, h⟩
  · exact .inl (.inl h)
  · exact .inl (.inr (.inl h))
  · obtain ⟨t0, h0, rfl⟩ := List.mem_map.1 ht
    refine .inl (.inr (.inr (.inl ⟨t0, h0, ?_⟩)))
    split at h <;> exact h
  · obtain ⟨t0, h0, rfl⟩ := List.mem_map.1 ht
    split at hk
    · rcases List.mem_or_eq_of_mem_set hk with hk | rfl
      · exact .inl (.inr (.inr (.inr ⟨t0, h0, k', hk, h⟩)))
      · exact .inr h
    · exact .inl (.inr (.inr (.inr ⟨t0, h0, k', hk, h⟩)))
theorem put_v (h : SetV w B s O v) (d i : Int) (X : Option Addr) (n c : Nat) (xs : List En) (hr : Rd w w.heap.size 3 X n (ens xs)) (hX : X = none → c = 0) (hnc : n ≤ c) (hn : (n : Int) ≤ 100000) (hok : ∀ x ∈ xs, EnOk x) :
    Calls Try.prog 23 #[.pointer (some ⟨s, 0, none⟩), plV d i, .slice X n c] w fun e w' => e = .returned (.bool (vk v d i).isSome) ∧ SetV w' B s (fun j => O j ∨ w.heap.size ≤ j) (vputq v d i xs) ∧ Frm w w' O := by
  obtain ⟨b, ts, hT, rfl, hO⟩ := h.ex
  rcases bucket_cases ts d i with ⟨hk, hat⟩ | ⟨t, k, m, rfl, ht, hb, hk⟩
  · unfold vputq
    rw [hk]
    refine (put_no _ d i _ w (hat w B s b hT)).mono ?_
    rintro _ w' ⟨rfl, hf⟩
    exact ⟨rfl, ⟨b, ts, hT.new_ hf, rfl, fun j hj => .inl (hO j hj)⟩, hf.none_ _⟩
  · unfold vputq
    rw [hk]
    refine (put_in B s b ts t k d m X n c xs w hT ht hb hr hX hnc hn hok).mono ?_
    rintro _ w' ⟨A', rfl, hT', hA, hf⟩
    refine ⟨rfl, ⟨b, _, hT', vw_tput ts d m _, fun j hj => ?_⟩, hf.mono fun j _ e => hO j (by rw [e]; exact .inr (.inr (.inl ⟨t, (tget_some ht).1, rfl⟩)))⟩
    rcases hj.tput with hj | hj
    · exact .inl (hO j hj)
    · exact .inr (hA j hj)
theorem putTimer_v (h : SetV w B s O v) (d i a f : Int) :
    Calls Try.prog 24 #[.pointer (some ⟨s, 0, none⟩), plV d i, tmV a f] w fun e w' => e = .returned (.bool (vk v d i).isSome) ∧ SetV w' B s O (vputt v d i a f) ∧ Frm w w' O := by
  obtain ⟨b, ts, hT, rfl, hO⟩ := h.ex
  rcases bucket_cases ts d i with ⟨hk, hat⟩ | ⟨t, k, m, rfl, ht, hb, hk⟩
  · unfold vputt
    rw [hk]
    refine (putTimer_no _ d i a f w (hat w B s b hT)).mono ?_
    rintro _ w' ⟨rfl, hf⟩
    exact ⟨rfl, ⟨b, ts, hT.new_ hf, rfl, hO⟩, hf.none_ _⟩
  · unfold vputt
    rw [hk]
    refine (putTimer_in B s b ts t k d m a f w hT ht hb).mono ?_
    rintro _ w' ⟨rfl, hT', hf⟩
    refine ⟨rfl, ⟨b, _, hT', vw_tput ts d m _, fun j hj => ?_⟩, hf.mono fun j _ e => hO j (by rw [e]; exact .inr (.inr (.inl ⟨t, (tget_some ht).1, rfl⟩)))⟩
    rcases hj.tput with hj | hj
    · exact hO j hj
    · exact hO j (.inr (.inr (.inr ⟨t, (tget_some ht).1, k, List.mem_of_getElem? hb, hj⟩)))
theorem TOwn.grown {s b : Nat} {ts : List Tb} {d : Int} {t t' : Tb} {j : Nat} (h : TOwn s b (tbs ts d (t.bs.map clr1) ++ [t']) j) : TOwn s b ts j ∨ j = t'.g ∨ ∃ k ∈ t'.bs, blk k.hd.A j := by
  rcases h with h | h | ⟨t1, h1, h⟩ | ⟨t1, h1, k', hk, h⟩
  · exact .inl (.inl h)
  · exact .inl (.inr (.inl h))
  · rcases List.mem_append.1 h1 with h1 | h1
    · obtain ⟨t0, h0, rfl⟩ := List.mem_map.1 h1
      refine .inl (.inr (.inr (.inl ⟨t0, h0, ?_⟩)))
      split at h <;> exact h
    · obtain rfl := List.mem_singleton.1 h1
      exact .inr (.inl h)
  · rcases List.mem_append.1 h1 with h1 | h1
    · obtain ⟨t0, h0, rfl⟩ := List.mem_map.1 h1
      split at hk
      · obtain ⟨k0, _, rfl⟩ := List.mem_map.1 hk
        exact absurd h (blk_none j)
      · exact .inl (.inr (.inr (.inr ⟨t0, h0, k', hk, h⟩)))
    · obtain rfl := List.mem_singleton.1 h1
      exact .inr (.inr ⟨k', hk, h⟩)
theorem vw_clr {w : World} {B s b : Nat} {ts : List Tb} (hT : TSet w B s b ts) {d : Int} {t : Tb} (ht : tget ts d = some t) : vw (tbs ts d (t.bs.map clr1)) = vclr (vw ts) d := by
  obtain ⟨hm, hd⟩ := tget_some ht
  unfold vw tbs vclr
  rw [List.map_map, List.map_map]
  refine List.map_congr_left fun t0 h0 => ?_
  show Tb.v (if t0.d = d then { t0 with bs := t.bs.map clr1 } else t0) = if t0.d = d then _ else _
  split
  · rename_i e
    obtain rfl := nodup_inj hT.ds h0 hm (e.trans hd.symm)
    simp [Tb.v, Function.comp_def, clr1, Bk.v]
  · rfl
theorem tbl_lt {e : Int} (h : tbl e = true) : ∃ nb : Nat, e = nb ∧ 2 ≤ nb ∧ nb ≤ 8 := by
  obtain ⟨h1, h2⟩ := (tbl_iff e).1 h
  exact ⟨e.toNat, by omega, by omega, by omega⟩
theorem grow_v (h : SetV w B s O v) (hv : VFew v) (d e now : Int) :
    Calls Try.prog 11 #[.pointer (some ⟨s, 0, none⟩), .int .i64 d, .int .i64 e, .int .u64 now] w fun r w' => r = .returned (.bool (vcan v d e)) ∧ SetV w' B s (fun j => O j ∨ w.heap.size ≤ j) (vgrow v d e now) ∧ Frm w w' O := by
  obtain ⟨b, ts, hT, rfl, hO⟩ := h.ex
  have no : vcan (vw ts) d e = false → Calls Try.prog 11 #[.pointer (some ⟨s, 0, none⟩), .int .i64 d, .int .i64 e, .int .u64 now] w (fun e w' => e = .returned (.bool false) ∧ w = w') → Calls Try.prog 11 #[.pointer (some ⟨s, 0, none⟩), .int .i64 d, .int .i64 e, .int .u64 now] w fun r w' => r = .returned (.bool (vcan (vw ts) d e)) ∧ SetV w' B s (fun j => O j ∨ w.heap.size ≤ j) (vgrow (vw ts) d e now) ∧ Frm w w' O := fun hc hcall => by
    unfold vgrow
    rw [hc]
    refine hcall.mono ?_
    rintro _ _ ⟨rfl, rfl⟩
    exact ⟨rfl, ⟨b, ts, hT, rfl, fun j hj => .inl (hO j hj)⟩, Frm.refl _ _⟩
  have hd := has_any B s b ts d w hT
  have he := has_any B s b ts e w hT
  cases ht : tget ts d with
  | none =>
    rw [ht] at hd
    exact no (by unfold vcan; rw [vget_none ht]; rfl) (grow_no1 _ d e now w hd)
  | some t =>
    rw [ht] at hd
    cases hte : tget ts e with
    | some t2 =>
      rw [hte] at he
      exact no (by unfold vcan; rw [vget_some ht, vget_some hte]; rfl) (grow_no2 _ d e now w hd he)
    | none =>
      rw [hte] at he
      by_cases hle : e ≤ d
      · exact no (by unfold vcan; rw [vget_some ht, vget_none hte]; simp; omega) (grow_no3 _ d e now w hd he hle)
      · cases htb : tbl e with
        | false => exact no (by unfold vcan; rw [htb]; simp) (grow_no4 _ d e now w hd he hle htb)
        | true =>
          obtain ⟨nb, rfl, h2, h8⟩ := tbl_lt htb
          have hc : vcan (vw ts) d nb = true := by unfold vcan; rw [vget_some ht, vget_none hte, htb]; simp; omega
          have hrow : vrow (vw ts) d = t.bs.map Bk.v := by unfold vrow; rw [vget_some ht]; rfl
          have hq : (vrow (vw ts) d).map (·.2.2) = t.bs.map (·.q) := by rw [hrow, List.map_map]; rfl
          have htot : (t.bs.flatMap (·.q)).length ≤ 4000 := by
            have := hv d
            rw [List.flatMap_def, hq, ← List.flatMap_def] at this
            exact this
          unfold vgrow
          rw [if_pos hc, hc, hq]
          refine (grow_loop B s b ts t d nb now w hT ht hte (by omega) h2 h8 htot).mono ?_
          rintro _ w' ⟨g2, hs', rfl, hT', hg, hh, hl, hf⟩
          refine ⟨rfl, ⟨b, _, hT', ?_, fun j hj => ?_⟩, hf.mono fun j _ e => hO j ?_⟩
          · unfold vw
            rw [List.map_append]
            show vw _ ++ [((nb : Int), (begun now hs' (rehash nb (t.bs.map (·.q)))).map Bk.v)] = _
            rw [vw_clr hT ht, begun_v _ _ _ (by rw [hl, rehash_len])]
            rfl
          · rcases TOwn.grown hj with hj | hj | ⟨k, hk, hj⟩
            · exact .inl (hO j hj)
            · exact .inr (by rw [hj]; exact hg)
            · obtain ⟨i, q1, q2, rfl⟩ := begun_mem hk
              exact .inr (hh _ (List.getElem_mem q1) j hj)
          · rcases e with rfl | rfl
            · exact .inr (.inr (.inl ⟨t, (tget_some ht).1, rfl⟩))
            · exact .inr (.inl rfl)
theorem places_v (h : SetV w B s O v) (hv : VFew v) (th : Int) :
    Calls Try.prog 16 #[.pointer (some ⟨s, 0, none⟩), .int .i64 th] w fun e w' => ∃ A n, e = .returned (.slice A n n) ∧ Sl w' w.heap.size 2 A n n (plc (pls th v)) ∧ Frm w w' fun _ => False := by
  obtain ⟨b, ts, hT, rfl, hO⟩ := h.ex
  exact places_any s _ ts th w hT.setR hv
theorem new_v (now : Int) (w : World) : Calls Try.prog 17 #[.int .u64 now] w fun e w' => ∃ s, e = .returned (.pointer (some ⟨s, 0, none⟩)) ∧ SetV w' w.heap.size s (fun j => w.heap.size ≤ j) (vnew now) ∧ Frm w w' fun _ => False := by
  refine (new_any now w).mono ?_
  rintro _ w' ⟨s, b, ts, rfl, hT, hv, hf⟩
  exact ⟨s, rfl, ⟨b, ts, hT, hv, fun j hj => (hT.lt hj).1⟩, hf⟩
end
end Go.Proofs.Ytajcijocjbakbaa
