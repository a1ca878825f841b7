import Derived.Test.YtajcijocjbakbaaTbL
namespace Go.Proofs.Ytajcijocjbakbaa
open Go.RowKit

/-! ### Places -/
def vget (v : List Vt) (d : Int) : Option (List Vk) := (v.find? fun p => p.1 = d).map (·.2)
def vrow (v : List Vt) (d : Int) : List Vk := (vget v d).getD []
def plq (d : Int) (i : Nat) (th : Int) (q : List En) : List (Int × Int) := (q.filter fun e => e.t == th).map fun _ => (d, (i : Int))
def kq (bs : List Vk) (n : Nat) : List En := (bs[n]?.map (·.2.2)).getD []
def pltN (d : Int) (th : Int) (bs : List Vk) : Nat → List (Int × Int)
  | 0 => []
  | n + 1 => pltN d th bs n ++ plq d n th (kq bs n)
def plsN (th : Int) (v : List Vt) : Nat → List (Int × Int)
  | 0 => []
  | n + 1 => plsN th v n ++ pltN (2 + n : Nat) th (vrow v (2 + n : Nat)) (vrow v (2 + n : Nat)).length
def pls (th : Int) (v : List Vt) : List (Int × Int) := plsN th v 7
def plc (l : List (Int × Int)) : List Value := l.flatMap fun p => [.int .i64 p.1, .int .i64 p.2]
theorem plc_len (l : List (Int × Int)) : (plc l).length = l.length * 2 := flat_len _ 2 (fun _ => rfl) l
theorem vget_vw (ts : List Tb) (d : Int) : vget (vw ts) d = (tget ts d).map fun t => t.bs.map Bk.v := by
  unfold vget vw tget
  induction ts with
  | nil => rfl
  | cons t r ih =>
    by_cases e : t.d = d
    · rw [List.map_cons, List.find?_cons_of_pos (by show decide (t.d = d) = true; simpa using e), List.find?_cons_of_pos (by simpa using e)]
      rfl
    · rw [List.map_cons, List.find?_cons_of_neg (by show ¬ decide (t.d = d) = true; simpa using e), List.find?_cons_of_neg (by simpa using e)]
      exact ih
theorem plq_take (d : Int) (i : Nat) (th : Int) (q : List En) (j : Nat) (x : En) (h : q[j]? = some x) : plq d i th (q.take (j + 1)) = plq d i th (q.take j) ++ if x.t == th then [(d, (i : Int))] else [] := by
  unfold plq
  rw [List.take_add_one, h, List.filter_append, List.map_append]
  congr 1
  cases hx : x.t == th <;> simp [hx]
theorem plq_len (d : Int) (i : Nat) (th : Int) (q : List En) : (plq d i th q).length ≤ q.length := by
  unfold plq
  rw [List.length_map]
  exact List.length_filter_le _ _
theorem pltN_len (d th : Int) (bs : List Vk) : ∀ n, (pltN d th bs n).length ≤ ((bs.take n).flatMap (·.2.2)).length
  | 0 => by simp [pltN]
  | n + 1 => by
    have h := pltN_len d th bs n
    have h2 := plq_len d n th (kq bs n)
    rw [pltN, List.length_append, List.take_add_one, List.flatMap_append, List.length_append]
    unfold kq at h2 ⊢
    cases hx : bs[n]? with
    | none => rw [hx] at h2; simp only [Option.map_none, Option.getD_none, List.length_nil, Option.toList_none, List.flatMap_nil] at h2 ⊢; omega
    | some k => rw [hx] at h2; simp only [Option.map_some, Option.getD_some, Option.toList_some, List.flatMap_singleton] at h2 ⊢; omega
theorem pltN_few (d th : Int) (bs : List Vk) (n : Nat) : (pltN d th bs n).length ≤ (bs.flatMap (·.2.2)).length := by
  refine Nat.le_trans (pltN_len d th bs n) ?_
  conv => rhs; rw [← List.take_append_drop n bs, List.flatMap_append, List.length_append]
  omega
theorem plsN_few (th : Int) (v : List Vt) (hv : ∀ d, ((vrow v d).flatMap (·.2.2)).length ≤ 4000) : ∀ n, (plsN th v n).length ≤ n * 4000
  | 0 => by simp [plsN]
  | n + 1 => by
    have h := plsN_few th v hv n
    have h2 := pltN_few (2 + n : Nat) th (vrow v (2 + n : Nat)) (vrow v (2 + n : Nat)).length
    have h3 := hv (2 + n : Nat)
    rw [plsN, List.length_append]
    omega
/-- A set as Places reads it: m is what stands behind the pointer. -/
structure SetR (w : World) (s : Nat) (m : Value) (ts : List Tb) : Prop where
  ptr : w.cell? ⟨s, 0, none⟩ = some m
  look : ∀ V, (Frm w V fun _ => False) → ∀ d, (Instr.lookup 59 m (.int .i64 d) false).run Try.prog V = .ok (tval (tget ts d)) V
  tb : ∀ t ∈ ts, Rd w w.heap.size 3 (some ⟨t.g, 0, none⟩) t.bs.length (bkc t.bs) ∧ t.bs.length ≤ 256
  qs : ∀ t ∈ ts, ∀ k ∈ t.bs, Rd w w.heap.size 3 k.hd.A k.hd.n (ens k.q)
theorem TSet.setR {w : World} {B s b : Nat} {ts : List Tb} (h : TSet w B s b ts) : SetR w s (.map (some b)) ts :=
  ⟨h.ptr, fun V hf d => (h.new_ hf).lookup d, fun t ht => ⟨(h.tb t ht).1.rd, by rw [(h.tb t ht).2.1]; exact sz_le _⟩, fun t ht k hk => (h.qs t ht k hk).1.rd⟩
theorem setR_zero (w : World) (s : Nat) (h : w.cell? ⟨s, 0, none⟩ = some (.map none)) : SetR w s (.map none) [] :=
  ⟨h, fun V _ d => lookup_nil d V, (fun t ht => by cases ht), (fun t ht => by cases ht)⟩
theorem info37 : (Try.prog.info? 37).map (fun i => (i.zero, i.size, i.bytes)) = some (some (.agg #[.int .i64 0, .int .i64 0]), 2, 16) := by kernel_rfl
set_option maxRecDepth 100000 in
theorem clipP_any (A : Option Addr) (n c : Nat) (h : n ≤ c) (w : World) : Calls Try.prog 32 #[.slice A n c] w fun e w' => e = .returned (.slice A n n) ∧ w = w' := by
  go_enter Try.func32, Try.ntmps32
  go_wp2
  go_ret
  exact ⟨by simp, rfl⟩
set_option maxRecDepth 100000 in
set_option maxHeartbeats 1000000 in
theorem places_any (s : Nat) (m : Value) (ts : List Tb) (th : Int) (w : World) (h : SetR w s m ts) (hv : ∀ d, ((vrow (vw ts) d).flatMap (·.2.2)).length ≤ 4000) :
    Calls Try.prog 16 #[.pointer (some ⟨s, 0, none⟩), .int .i64 th] w fun e w' => ∃ A n, e = .returned (.slice A n n) ∧ Sl w' w.heap.size 2 A n n (plc (pls th (vw ts))) ∧ Frm w w' fun _ => False := by
  obtain ⟨i37, hi, hz0, hz1, hz2⟩ := info_parts info37
  have H := Lib.hid h
  have HV := Lib.hid hv
  clear h hv
  go_enter Try.func16, Try.ntmps16
  go_wp2_with fail
  go_loopw [4, 5] (fun o i wr => ∃ (d n : Nat) (A : Option Addr) (c : Nat), i = .int .i64 d ∧ 2 ≤ d ∧ d ≤ 9 ∧ o = .slice A n c ∧ Sl wr w.heap.size 2 A n c (plc (plsN th (vw ts) (d - 2))) ∧ Frm w wr fun _ => False) (fun _ i _ => 9 - (intOf i).toNat)
  case atStart => exact ⟨2, 0, none, 0, rfl, by omega, by omega, rfl, Sl.nil _ _ _, Frm.refl _ _⟩
  case round =>
    obtain ⟨d, n, A, c, rfl, hd2, hd9, rfl, hS, hF⟩ := hrel
    have S := Lib.hid hS
    have F := Lib.hid hF
    have hp := hF.cell H.out.ptr id
    have hl := H.out.look wr hF d
    clear hS hF
    by_cases hlk : d ≤ 8
    · have e1 : decide ((d : Int) ≤ 8) = true := by rw [decide_eq_true_eq]; omega
      have hsucc : plsN th (vw ts) (d + 1 - 2) = plsN th (vw ts) (d - 2) ++ pltN d th (vrow (vw ts) d) (vrow (vw ts) d).length := by
        have : d + 1 - 2 = (d - 2) + 1 := by omega
        rw [this, plsN, show 2 + (d - 2) = d by omega]
      have HSUC := Lib.hid hsucc
      clear hsucc
      obtain ⟨X, bs, hlk2, hrd, hb256, hvr, hqs⟩ : ∃ (X : Option Addr) (bs : List Bk), tval (tget ts d) = .slice X bs.length bs.length ∧ Rd w w.heap.size 3 X bs.length (bkc bs) ∧ bs.length ≤ 256 ∧ vrow (vw ts) d = bs.map Bk.v ∧ ∀ k ∈ bs, Rd w w.heap.size 3 k.hd.A k.hd.n (ens k.q) := by
        cases ht : tget ts d with
        | none => exact ⟨none, [], rfl, Rd.nil _ _ _ _, by simp, by unfold vrow; rw [vget_vw, ht]; rfl, fun k hk => by cases hk⟩
        | some t =>
          obtain ⟨hm, _⟩ := tget_some ht
          exact ⟨_, t.bs, rfl, (H.out.tb t hm).1, (H.out.tb t hm).2, by unfold vrow; rw [vget_vw, ht]; rfl, H.out.qs t hm⟩
      rw [hlk2] at hl
      obtain ⟨n2, hn2⟩ : ∃ n2, bs.length = n2 := ⟨_, rfl⟩
      rw [hn2] at hl hrd hb256
      have hfew := HV.out d
      rw [hvr] at hfew
      have HN2 := Lib.hid hn2
      have HRD := Lib.hid hrd
      have HVR := Lib.hid hvr
      have HQS := Lib.hid hqs
      have HFEW := Lib.hid hfew
      have HPL := Lib.hid (plsN_few th (vw ts) HV.out (d - 2))
      clear hlk2 hrd hvr hqs hfew hn2
      go_wp2_with fail
      go_loopw [4, 25] (fun o i w2 => ∃ (k n : Nat) (A : Option Addr) (c : Nat), i = .int .i64 k ∧ k ≤ n2 ∧ o = .slice A n c ∧ Sl w2 w.heap.size 2 A n c (plc (plsN th (vw ts) (d - 2) ++ pltN d th (bs.map Bk.v) k)) ∧ Frm w w2 fun _ => False) (fun _ i _ => n2 - (intOf i).toNat)
      case atStart => exact ⟨0, n, A, c, rfl, Nat.zero_le _, rfl, by rw [pltN, List.append_nil]; exact S.out, F.out⟩
      case round =>
        obtain ⟨k, n, A, c, rfl, hk2, rfl, hS, hF⟩ := hrel
        have S := Lib.hid hS
        have F := Lib.hid hF
        clear hS hF
        by_cases hlk : k < n2
        · have k0 : (0 : Int) ≤ (k : Int) := by omega
          have k1 : (k : Int) < (n2 : Int) := by omega
          obtain ⟨hnl, hc⟩ := Rd.rows Bk.len (by decide) (HRD.out.new_ F.out)
          obtain ⟨g, off, rfl, hg, hcell⟩ := hc (by omega)
          obtain ⟨⟨ka, kf, ⟨Ak, mk, ck⟩, q⟩, hbk⟩ : ∃ x, bs[k]? = some x := ⟨_, List.getElem?_eq_getElem (by rw [HN2.out]; exact hlk)⟩
          obtain ⟨hkl, hbe⟩ := List.getElem?_eq_some_iff.1 hbk
          have c0 := hcell k hkl 0 (.int .u64 ka) (by rw [hbe]; rfl)
          have c1 := hcell k hkl 1 (.int .u64 kf) (by rw [hbe]; rfl)
          have c2 := hcell k hkl 2 (.slice Ak mk ck) (by rw [hbe]; rfl)
          simp only [Nat.add_zero] at c0
          have hrq := HQS.out _ (List.mem_of_getElem? hbk)
          have hrq : Rd w w.heap.size 3 Ak mk (ens q) := hrq
          have hql := (Rd.ens hrq).1
          have HQ := Lib.hid hrq
          have hkq : kq (bs.map Bk.v) k = q := by unfold kq; rw [List.getElem?_map, hbk]; rfl
          have hq4 : q.length ≤ 4000 := by
            refine Nat.le_trans ?_ HFEW.out
            have : q.Sublist (((bs.map Bk.v)).flatMap (·.2.2)) := by
              rw [List.flatMap_def]
              exact List.sublist_flatten_of_mem (List.mem_map.2 ⟨_, List.mem_map.2 ⟨_, List.mem_of_getElem? hbk, rfl⟩, rfl⟩)
            exact this.length_le
          have m4 : (mk : Int) ≤ 4000 := by omega
          have HKQ := Lib.hid hkq
          have HQL := Lib.hid hql
          clear hc hcell hbe hbk hrq hkq hnl hq4 hql
          go_wp2_with fail
          go_loopw [4, 33] (fun o i w3 => ∃ (j n : Nat) (A : Option Addr) (c : Nat), i = .int .i64 j ∧ j ≤ mk ∧ o = .slice A n c ∧ Sl w3 w.heap.size 2 A n c (plc ((plsN th (vw ts) (d - 2) ++ pltN d th (bs.map Bk.v) k) ++ plq d k th (q.take j))) ∧ Frm w w3 fun _ => False) (fun _ i _ => mk - (intOf i).toNat)
          case atStart => exact ⟨0, n, A, c, rfl, Nat.zero_le _, rfl, by rw [List.take_zero, show plq d k th [] = [] from rfl, List.append_nil]; exact S.out.alloc _, F.out.alloc _⟩
          case round =>
            obtain ⟨j, n, A, c, rfl, hj, rfl, hS, hF⟩ := hrel
            have S := Lib.hid hS
            have F := Lib.hid hF
            clear hS hF
            by_cases hjm : j < mk
            · have j0 : (0 : Int) ≤ (j : Int) := by omega
              have j1 : (j : Int) < (mk : Int) := by omega
              have hjq : j < q.length := by have := HQL.out; omega
              obtain ⟨x, hx⟩ : ∃ x, q[j] = x := ⟨_, rfl⟩
              have hqx : q[j]? = some x := by rw [List.getElem?_eq_getElem hjq, hx]
              have HTK := Lib.hid (plq_take d k th q j x hqx)
              obtain ⟨g2, off2, rfl, -, hcell⟩ := (Rd.ens (HQ.out.new_ F.out)).2 (by omega)
              obtain ⟨p0, p1, p2⟩ := hcell j hjq
              rw [hx] at p0 p1 p2
              have hn : n ≤ 36000 := by
                have h1 := S.out.len
                rw [plc_len, List.length_append, List.length_append] at h1
                have h2 := HPL.out
                have h3 := pltN_few d th (bs.map Bk.v) k
                have h4 := plq_len d k th (q.take j)
                have h5 := HFEW.out
                rw [List.length_take] at h4
                omega
              obtain ⟨r1, r2⟩ : n + 1 ≤ maxLen ∧ (n + 1) * 16 ≤ 140737488355328 := by unfold maxLen; omega
              clear hcell hx hqx hjq
              cases hxt : x.t == th with
              | true =>
                have HXT := Lib.hid hxt
                go_wp2_with (at_builtin; refine wpList_append_sl _ rfl _ _ 44 rfl w.heap.size 37 i37 _ 2 16 Try.underlying44 hi hz0 hz1 hz2 rfl (by decide) _ _ _ _ rfl ((S.out.alloc _).alloc _) _ 1 1 [.int .i64 d, .int .i64 k] rfl (Rd.fresh_at _ 37 #[.int .i64 d, .int .i64 k] rfl (by simp)) (by simp [Value.oneCell']) r1 r2 ((F.out.alloc _).alloc _).size ?_; intro A' cap' w4 hap; replace hap := Lib.hid hap)
                go_roundw
                case rel =>
                  refine ⟨j + 1, n + 1, A', cap', by go_num, by omega, rfl, ?_, ((F.out.alloc _).alloc _).fresh hap.out.2.1 (fun j hj => (S.out.ge hj).1)⟩
                  have e : plc ((plsN th (vw ts) (d - 2) ++ pltN d th (bs.map Bk.v) k) ++ plq d k th (q.take (j + 1))) = plc ((plsN th (vw ts) (d - 2) ++ pltN d th (bs.map Bk.v) k) ++ plq d k th (q.take j)) ++ [.int .i64 d, .int .i64 k] := by
                    rw [HTK.out, HXT.out, if_pos rfl, ← List.append_assoc]
                    simp [plc]
                  rw [e]
                  exact hap.out.1
                case measure => simp [intOf]; omega
              | false =>
                have HXT := Lib.hid hxt
                go_wp2_with fail
                go_roundw
                case rel =>
                  refine ⟨j + 1, n, A, c, by go_num, by omega, rfl, ?_, F.out.alloc _⟩
                  rw [HTK.out, HXT.out, if_neg (by decide), List.append_nil]
                  exact S.out.alloc _
                case measure => simp [intOf]; omega
            · obtain rfl : j = mk := by omega
              go_wp2_with fail
              go_roundw
              case rel =>
                refine ⟨k + 1, n, A, c, by go_num, by omega, rfl, ?_, F.out⟩
                have := S.out
                rw [List.take_of_length_le (by rw [HQL.out]; exact Nat.le_refl _)] at this
                rw [pltN, HKQ.out, ← List.append_assoc]
                exact this
              case measure => simp [intOf]; omega
        · obtain rfl : k = n2 := by omega
          go_wp2_with fail
          go_roundw
          case rel =>
            refine ⟨d + 1, n, A, c, by go_num, by omega, by omega, rfl, ?_, F.out⟩
            rw [HSUC.out, HVR.out, List.length_map, HN2.out]
            exact S.out
          case measure => simp [intOf]; omega
    · obtain rfl : d = 9 := by omega
      have hc := S.out.le
      go_wp2_with (go_at_call 32; refine (clipP_any A n c hc _).mono ?_; rintro e w' ⟨rfl, rfl⟩)
      go_ret
      exact ⟨A, n, rfl, S.out.clip (Nat.le_refl _) hc, F.out⟩
end Go.Proofs.Ytajcijocjbakbaa
