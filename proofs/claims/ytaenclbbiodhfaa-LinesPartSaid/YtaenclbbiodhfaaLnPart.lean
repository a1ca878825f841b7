import Derived.Test.YtaenclbbiodhfaaLnH
import Derived.Test.YtaenclbbiodhfaaLnI
import Derived.BigQuiet
namespace Go.Proofs.Ytaenclbbiodhfaa.Part
open Go.RowKit Go.Proofs.Ytaenclbbiodhfaa

theorem uz_cells {w : World} {B m cap : Nat} {A : Option Addr} {l : List Int} (h : Sl w B 1 A m cap (uz l)) (hp : 0 < m) : m = l.length ∧ ∃ g off, A = some ⟨g, off, none⟩ ∧ ∀ i (hi : i < l.length), w.cell? ⟨g, off + i, none⟩ = some (.int .u64 l[i]) := by
  have hm : m = l.length := by have := h.len; simp [uz] at this; omega
  obtain ⟨g, off, rfl, _, _, hc, _⟩ := h.form (Nat.lt_of_lt_of_le hp h.le)
  exact ⟨hm, g, off, rfl, fun i hi => hc i _ (by simp [uz, hi])⟩
/-- What stands while the loop goes. -/
structure Ctx (w2 : World) (br : Nat) (X : Option Addr) (m cx : Nat) (A' : Option Addr) (cap' : Nat) (ask : List Int) (Ay An : Option Addr) (ys zs : List En) : Prop where
  row : w2.cell? ⟨br, 1, none⟩ = some (.slice A' ask.length cap')
  sl : Sl w2 0 1 A' ask.length cap' (uz ask)
  sy : Sl w2 0 3 Ay ys.length ys.length (ens ys)
  sz : Sl w2 0 3 An zs.length zs.length (ens zs)

set_option maxRecDepth 100000 in
set_option maxHeartbeats 4000000 in
theorem walk (A X : Option Addr) (n c m cx : Nat) (key : Int) (xs : List En) (ch : List Nat) (w : World) (hr : Rd w w.heap.size 3 A n (ens xs)) (hrl : (n : Int) ≤ 9223372036854775807) (hch : Rd w w.heap.size 1 X m (bz ch)) (hml : (m : Int) ≤ 9223372036854775807) (hu : ∀ c ∈ ch, c ≤ 255) (hX : ∀ j, blk X j → j < w.heap.size) (hA : ∀ j, blk A j → j < w.heap.size) :
    Calls Try.prog 3 #[.slice A n c, .int .u32 key, .slice X m cx] w fun e w' => e = .returned (.bool true) ∧ Frm w w' fun _ => False := by
  by_cases h100 : (100 : Int) < (n : Int)
  · go_enter Try.func3, Try.ntmps3
    go_wp2_with (go_at_call 14; refine (llives_any _).mono ?_; rintro e w' ⟨rfl, hf⟩)
    go_ret
    exact ⟨rfl, hf⟩
  by_cases h200 : (200 : Int) < (m : Int)
  · have h100' : (n : Int) ≤ 100 := by omega
    clear h100
    go_enter Try.func3, Try.ntmps3
    go_wp2_with (go_at_call 14; refine (llives_any _).mono ?_; rintro e w' ⟨rfl, hf⟩)
    go_ret
    exact ⟨rfl, hf⟩
  have h100' : (n : Int) ≤ 100 := by omega
  have h200' : (m : Int) ≤ 200 := by omega
  obtain ⟨so, hso⟩ : ∃ so, so = chSo ch key xs := ⟨_, rfl⟩
  obtain ⟨W, hW⟩ : ∃ W, W = w.alloc (.cells #[.slice X m cx, .slice none 0 0] 30) := ⟨_, rfl⟩
  have hfW : Frm w W fun _ => False := by rw [hW]; exact (Frm.refl _ _).alloc _
  have hsz : W.heap.size = w.heap.size + 1 := by rw [hW]; simp
  have hcall := chosen_any A X n c m cx w.heap.size key xs ch W (hr.new_ hfW) (by omega) (hch.new_ hfW) hu (fun j hj => by have := hX j hj; omega) (fun j hj => by have := hA j hj; omega)
    (by rw [hW, World.cell?_alloc_new]; rfl) (by rw [hW, World.cell?_alloc_new]; rfl) (by rw [hW]; exact World.frozen?_alloc_new w _ _ _)
  rw [hW] at hcall
  obtain ⟨hxl, hcells⟩ := Rd.ens hr
  obtain ⟨hml', hbz⟩ := bz_cells hch
  have hlen := sel_len so xs xs.length (Nat.le_refl _)
  obtain ⟨ys, hys⟩ : ∃ ys, ys = chTaken ch key xs := ⟨_, rfl⟩
  obtain ⟨zs, hzs⟩ : ∃ zs, zs = chLeft ch key xs := ⟨_, rfl⟩
  have hlen' : ys.length + zs.length = n := by rw [hys, hzs, hxl]; rw [hso] at hlen; exact hlen
  have HYS := Lib.hid hys
  have HZS := Lib.hid hzs
  have HSO := Lib.hid hso
  rw [← hys, ← hzs] at hcall
  have HC := Lib.hid hcall
  have HW := Lib.hid hW
  have HFW := Lib.hid hfW
  have HSZ := Lib.hid hsz
  have HXL := Lib.hid hxl
  have HCE := Lib.hid hcells
  have HML := Lib.hid hml'
  have HBZ := Lib.hid hbz
  have HU := Lib.hid hu
  obtain ⟨ask, hask⟩ : ∃ l, l = (chRun ch key xs).2 := ⟨_, rfl⟩
  rw [← hask] at HC
  have HASK := Lib.hid hask
  have hal : ask.length ≤ n := by rw [hask, hxl]; exact chRun_len ch key xs
  have e1 : (ys.length : Int) + (zs.length : Int) = (n : Int) := by omega
  have HLEN := Lib.hid hlen'
  clear hcall hW hfW hsz hr hch hX hA hu h100 h200 hrl hml hxl hcells hml' hbz hlen hys hzs hlen' hso hask
  have n35 := neq35
  have g35 := eqg35
  go_enter Try.func3, Try.ntmps3
  go_wp2_with fail
  refine HC.out.mono ?_
  rintro e w2 ⟨v, Ay, An, A', cap', rfl, hP, hrow, hf2, _⟩
  obtain ⟨hv, hy, hz, _⟩ := hP
  subst hv
  have hF : Frm w w2 fun _ => False := by
    have h1 := HFW.out
    rw [HW.out] at h1
    exact h1.fresh hf2 (fun j hj => by omega)
  have F2 := Lib.hid hF
  have CX : Hid (Ctx w2 w.heap.size X m cx A' cap' ask Ay An ys zs) := ⟨hrow.c1, hrow.sl.mono (Nat.zero_le _), hy.mono (Nat.zero_le _), hz.mono (Nat.zero_le _)⟩
  clear hy hz hrow hf2 hF
  go_wp2_with fail
  go_loopw [10, 11, 12, 13, 14] (fun t q a i _ wr => ∃ k : Nat, i = .int .i64 k ∧ k ≤ n ∧ t = .int .i64 (sel so xs k).length ∧ q = .int .i64 (sel (fun i => !(so i)) xs k).length ∧ a = .int .i64 (chRun ch key (xs.take k)).2.length ∧ Frm w2 wr fun _ => False) (fun _ _ _ i _ _ => n - (intOf i).toNat)
  case atStart => exact ⟨0, rfl, Nat.zero_le _, rfl, rfl, rfl, Frm.refl _ _⟩
  case round =>
    obtain ⟨k, rfl, hk, rfl, rfl, rfl, hFr⟩ := hrel
    have FR := Lib.hid hFr
    clear hFr
    by_cases hlt : k < n
    · obtain ⟨g, off, rfl, hg, hcell⟩ := HCE.out (by omega)
      have hkl : k < xs.length := by have := HXL.out; omega
      obtain ⟨x, hx⟩ : ∃ x, x = xs[k] := ⟨_, rfl⟩
      have hc := hcell k hkl
      rw [← hx] at hc
      obtain ⟨q0, q1, q2⟩ := hc
      replace q0 := FR.out.cell (F2.out.cell q0 id) id
      replace q1 := FR.out.cell (F2.out.cell q1 id) id
      replace q2 := FR.out.cell (F2.out.cell q2 id) id
      have c1 := FR.out.cell CX.out.row id
      have i0 : (0 : Int) ≤ (k : Int) := by omega
      have i1 : (k : Int) < (n : Int) := by omega
      obtain ⟨T, hT⟩ : ∃ l, (sel so xs k).length = l := ⟨_, rfl⟩
      obtain ⟨Q, hQ⟩ : ∃ l, (sel (fun i => !(so i)) xs k).length = l := ⟨_, rfl⟩
      obtain ⟨a, ha⟩ : ∃ l, (chRun ch key (xs.take k)).2.length = l := ⟨_, rfl⟩
      have HT := Lib.hid hT
      have HQ := Lib.hid hQ
      have HAA := Lib.hid ha
      have hal2 : a ≤ k := by rw [← ha]; refine Nat.le_trans (chRun_len _ _ _) ?_; rw [List.length_take]; omega
      have hTk : T ≤ k := by rw [← hT]; exact sel_le _ _ _
      have hQk : Q ≤ k := by rw [← hQ]; exact sel_le _ _ _
      have a0 : (0 : Int) ≤ (a : Int) := by omega
      have hrun := chRun_succ ch key xs k hkl
      have hsok := chSo_at ch key xs k hkl
      rw [← HSO.out, ← hx, ha] at hsok
      rw [← hx] at hrun
      rw [hT, hQ, ha]
      obtain ⟨L, hL⟩ : ∃ L, ask.length = L := ⟨_, rfl⟩
      have HLEN1 : L ≤ n := by omega
      have HLL := Lib.hid hL
      rw [hL] at c1
      clear hT hQ ha hcell
      by_cases hon : x.k = key ∧ (chRun ch key (xs.take k)).1 = true
      · obtain ⟨hk1, ho1⟩ := hon
        have hget := run_get ch key xs k hkl (by rw [← hx]; exact hk1) ho1
        rw [← HASK.out, HAA.out, ← hx] at hget
        have haL := (List.getElem?_eq_some_iff.1 hget).1
        obtain ⟨_, ga, oa, rfl, hca⟩ := uz_cells CX.out.sl (by omega)
        have ca := hca a haL
        have hga : ask[a]'haL = x.tok := by
          rw [List.getElem?_eq_getElem haL] at hget
          exact Option.some.inj hget
        rw [hga] at ca
        replace ca := FR.out.cell ca id
        have b1 : (x.k == key) = true := by simp [hk1]
        have a1 : (a : Int) < (L : Int) := by omega
        have HN : Hid ((chRun ch key (xs.take (k + 1))).2.length = a + 1) := by
          show _ = _
          rw [hrun]
          unfold chStep
          rw [if_pos ⟨hk1, ho1⟩, List.length_append, HAA.out]; rfl
        rw [ho1] at hsok
        clear hca hget hga haL hrun hL
        by_cases ham : a < m
        · obtain ⟨gx, ox, rfl, _, hcx⟩ := HBZ.out (by omega)
          have cx := hcx a (by have := HML.out; omega)
          obtain ⟨cv, hcv⟩ : ∃ v, ch.getD a 0 = v := ⟨_, rfl⟩
          rw [hcv] at cx
          replace cx := FR.out.cell (F2.out.cell cx id) id
          have cvl : (cv : Int) ≤ 255 := by
            have : cv ∈ ch := by rw [← hcv, List.getD_eq_getElem?_getD, List.getElem?_eq_getElem (by have := HML.out; omega)]; exact List.getElem_mem _
            have := HU.out cv this; omega
          have a2 : (a : Int) < (m : Int) := by omega
          have hchv : chV ch a = cv % 4 := by unfold chV; rw [if_pos (by have := HML.out; omega), hcv]
          rw [hchv] at hsok
          clear hcx hcv hchv ham
          by_cases hcv0 : cv % 4 = 0
          · have d1 : ((cv : Int) % 4 == 0) = true := by simp; omega
            have d2 : (cv : Int) % 4 = 0 := by omega
            have hsk : so k = true := by rw [hsok]; simp [hk1, hcv0]
            clear hcv0 hk1 ho1
            have HS : Hid (so k = true) := hsk
            have hTl := sel_lt so xs k hkl hsk
            have hTg := sel_get so xs k hkl hsk
            rw [HT.out] at hTl hTg
            have hTl' : T < ys.length := by rw [HYS.out]; unfold chTaken; rw [← HSO.out]; exact hTl
            have hTg' : ys[T]'hTl' = x := by
              have : ys[T]? = some x := by rw [HYS.out, hx]; unfold chTaken; rw [← HSO.out]; exact hTg
              rw [List.getElem?_eq_getElem hTl'] at this
              exact Option.some.inj this
            obtain ⟨_, gy, oy, rfl, _, _, hcy⟩ := CX.out.sy.ens (by omega)
            have hcy' := hcy T hTl'
            rw [hTg'] at hcy'
            obtain ⟨y0, y1, y2⟩ := hcy'
            replace y0 := FR.out.cell y0 id
            replace y1 := FR.out.cell y1 id
            replace y2 := FR.out.cell y2 id
            obtain ⟨Y, hY⟩ : ∃ Y, ys.length = Y := ⟨_, rfl⟩
            rw [hY] at hTl'
            have HY := Lib.hid hY
            have t1 : decide ((Y : Int) ≤ (T : Int)) = false := by simp; omega
            have t2 : (T : Int) < (Y : Int) := by omega
            have t3 : (0 : Int) ≤ (T : Int) := by omega
            have t4 : ¬ Y ≤ T := by omega
            rw [hY]
            clear hsk hTl hTg hTl' hTg' hcy hY hx hsok HLEN1
            go_wp2_with fail
            go_quiet (fail)
            go_wp2_with fail
            go_quiet (fail)
            go_wp2_with fail
            go_roundw
            case rel => exact ⟨k + 1, by go_num, by omega, by rw [sel_succ so xs k hkl, HS.out, List.length_append, HT.out]; rfl, by rw [sel_succ _ xs k hkl, HS.out, List.length_append, HQ.out]; rfl, by rw [HN.out]; rfl, (FR.out.drewN _)⟩
            case measure => simp [intOf]; omega
          · have d1 : ((cv : Int) % 4 == 0) = false := by simp; omega
            have hsk : so k = false := by rw [hsok]; simp [hcv0]
            clear hcv0 hk1 ho1
            have HS : Hid (so k = false) := hsk
            have hnk : (fun i => !(so i)) k = true := by simp [hsk]
            have hTl := sel_lt (fun i => !(so i)) xs k hkl hnk
            have hTg := sel_get (fun i => !(so i)) xs k hkl hnk
            rw [HQ.out] at hTl hTg
            have hTl' : Q < zs.length := by rw [HZS.out]; unfold chLeft; rw [← HSO.out]; exact hTl
            have hTg' : zs[Q]'hTl' = x := by
              have : zs[Q]? = some x := by rw [HZS.out, hx]; unfold chLeft; rw [← HSO.out]; exact hTg
              rw [List.getElem?_eq_getElem hTl'] at this
              exact Option.some.inj this
            obtain ⟨_, gy, oy, rfl, _, _, hcy⟩ := CX.out.sz.ens (by omega)
            have hcy' := hcy Q hTl'
            rw [hTg'] at hcy'
            obtain ⟨y0, y1, y2⟩ := hcy'
            replace y0 := FR.out.cell y0 id
            replace y1 := FR.out.cell y1 id
            replace y2 := FR.out.cell y2 id
            obtain ⟨Y, hY⟩ : ∃ Y, zs.length = Y := ⟨_, rfl⟩
            rw [hY] at hTl'
            have HY := Lib.hid hY
            have t1 : decide ((Y : Int) ≤ (Q : Int)) = false := by simp; omega
            have t2 : (Q : Int) < (Y : Int) := by omega
            have t3 : (0 : Int) ≤ (Q : Int) := by omega
            have t4 : ¬ Y ≤ Q := by omega
            rw [hY]
            clear hsk hTl hTg hTl' hTg' hcy hY hx hsok HLEN1
            clear hnk
            go_wp2_with fail
            go_quiet (fail)
            go_wp2_with fail
            go_quiet (fail)
            go_wp2_with fail
            go_roundw
            case rel => exact ⟨k + 1, by go_num, by omega, by rw [sel_succ so xs k hkl, HS.out, List.length_append, HT.out]; rfl, by rw [sel_succ _ xs k hkl, HS.out, List.length_append, HQ.out]; rfl, by rw [HN.out]; rfl, (FR.out.drewN _)⟩
            case measure => simp [intOf]; omega
        · have a2 : (m : Int) ≤ (a : Int) := by omega
          have hchv : chV ch a = 2 := by unfold chV; rw [if_neg (by have := HML.out; omega)]
          have hsk : so k = false := by rw [hsok, hchv]; simp
          clear hk1 ho1 hchv ham
          have HS : Hid (so k = false) := hsk
          have hnk : (fun i => !(so i)) k = true := by simp [hsk]
          have hTl := sel_lt (fun i => !(so i)) xs k hkl hnk
          have hTg := sel_get (fun i => !(so i)) xs k hkl hnk
          rw [HQ.out] at hTl hTg
          have hTl' : Q < zs.length := by rw [HZS.out]; unfold chLeft; rw [← HSO.out]; exact hTl
          have hTg' : zs[Q]'hTl' = x := by
            have : zs[Q]? = some x := by rw [HZS.out, hx]; unfold chLeft; rw [← HSO.out]; exact hTg
            rw [List.getElem?_eq_getElem hTl'] at this
            exact Option.some.inj this
          obtain ⟨_, gy, oy, rfl, _, _, hcy⟩ := CX.out.sz.ens (by omega)
          have hcy' := hcy Q hTl'
          rw [hTg'] at hcy'
          obtain ⟨y0, y1, y2⟩ := hcy'
          replace y0 := FR.out.cell y0 id
          replace y1 := FR.out.cell y1 id
          replace y2 := FR.out.cell y2 id
          obtain ⟨Y, hY⟩ : ∃ Y, zs.length = Y := ⟨_, rfl⟩
          rw [hY] at hTl'
          have HY := Lib.hid hY
          have t1 : decide ((Y : Int) ≤ (Q : Int)) = false := by simp; omega
          have t2 : (Q : Int) < (Y : Int) := by omega
          have t3 : (0 : Int) ≤ (Q : Int) := by omega
          have t4 : ¬ Y ≤ Q := by omega
          rw [hY]
          clear hsk hTl hTg hTl' hTg' hcy hY hx hsok HLEN1
          clear hnk
          go_wp2_with fail
          go_quiet (fail)
          go_wp2_with fail
          go_quiet (fail)
          go_wp2_with fail
          go_roundw
          case rel => exact ⟨k + 1, by go_num, by omega, by rw [sel_succ so xs k hkl, HS.out, List.length_append, HT.out]; rfl, by rw [sel_succ _ xs k hkl, HS.out, List.length_append, HQ.out]; rfl, by rw [HN.out]; rfl, (FR.out.drewN _)⟩
          case measure => simp [intOf]; omega
      · have hsk : so k = false := by
          rw [hsok]
          by_cases h1 : x.k = key
          · have : (chRun ch key (xs.take k)).1 = false := by
              cases ho : (chRun ch key (xs.take k)).1
              · rfl
              · exact absurd ⟨h1, ho⟩ hon
            simp [this]
          · simp [h1]
        have HN : Hid ((chRun ch key (xs.take (k + 1))).2.length = a) := by
          show _ = _
          rw [hrun]
          unfold chStep
          rw [if_neg hon]
          exact HAA.out
        by_cases h1 : x.k = key
        · have ho : (chRun ch key (xs.take k)).1 = false := by
            cases ho : (chRun ch key (xs.take k)).1
            · rfl
            · exact absurd ⟨h1, ho⟩ hon
          have hoff := run_off ch key xs k (by omega) ho
          have haL : L = a := by rw [← hL, HASK.out, hoff]; exact HAA.out
          have b1 : (x.k == key) = true := by simp [h1]
          have a1 : (L : Int) ≤ (a : Int) := by omega
          clear hoff haL ho h1 hon hrun hL
          have HS : Hid (so k = false) := hsk
          have hnk : (fun i => !(so i)) k = true := by simp [hsk]
          have hTl := sel_lt (fun i => !(so i)) xs k hkl hnk
          have hTg := sel_get (fun i => !(so i)) xs k hkl hnk
          rw [HQ.out] at hTl hTg
          have hTl' : Q < zs.length := by rw [HZS.out]; unfold chLeft; rw [← HSO.out]; exact hTl
          have hTg' : zs[Q]'hTl' = x := by
            have : zs[Q]? = some x := by rw [HZS.out, hx]; unfold chLeft; rw [← HSO.out]; exact hTg
            rw [List.getElem?_eq_getElem hTl'] at this
            exact Option.some.inj this
          obtain ⟨_, gy, oy, rfl, _, _, hcy⟩ := CX.out.sz.ens (by omega)
          have hcy' := hcy Q hTl'
          rw [hTg'] at hcy'
          obtain ⟨y0, y1, y2⟩ := hcy'
          replace y0 := FR.out.cell y0 id
          replace y1 := FR.out.cell y1 id
          replace y2 := FR.out.cell y2 id
          obtain ⟨Y, hY⟩ : ∃ Y, zs.length = Y := ⟨_, rfl⟩
          rw [hY] at hTl'
          have HY := Lib.hid hY
          have t1 : decide ((Y : Int) ≤ (Q : Int)) = false := by simp; omega
          have t2 : (Q : Int) < (Y : Int) := by omega
          have t3 : (0 : Int) ≤ (Q : Int) := by omega
          have t4 : ¬ Y ≤ Q := by omega
          rw [hY]
          clear hsk hTl hTg hTl' hTg' hcy hY hx hsok HLEN1
          clear hnk
          go_wp2_with fail
          go_quiet (fail)
          go_wp2_with fail
          go_roundw
          case rel => exact ⟨k + 1, by go_num, by omega, by rw [sel_succ so xs k hkl, HS.out, List.length_append, HT.out]; rfl, by rw [sel_succ _ xs k hkl, HS.out, List.length_append, HQ.out]; rfl, by rw [HN.out], (FR.out.drewN _)⟩
          case measure => simp [intOf]; omega
        · have b1 : (x.k == key) = false := by simp [h1]
          clear h1 hon hrun hL
          have HS : Hid (so k = false) := hsk
          have hnk : (fun i => !(so i)) k = true := by simp [hsk]
          have hTl := sel_lt (fun i => !(so i)) xs k hkl hnk
          have hTg := sel_get (fun i => !(so i)) xs k hkl hnk
          rw [HQ.out] at hTl hTg
          have hTl' : Q < zs.length := by rw [HZS.out]; unfold chLeft; rw [← HSO.out]; exact hTl
          have hTg' : zs[Q]'hTl' = x := by
            have : zs[Q]? = some x := by rw [HZS.out, hx]; unfold chLeft; rw [← HSO.out]; exact hTg
            rw [List.getElem?_eq_getElem hTl'] at this
            exact Option.some.inj this
          obtain ⟨_, gy, oy, rfl, _, _, hcy⟩ := CX.out.sz.ens (by omega)
          have hcy' := hcy Q hTl'
          rw [hTg'] at hcy'
          obtain ⟨y0, y1, y2⟩ := hcy'
          replace y0 := FR.out.cell y0 id
          replace y1 := FR.out.cell y1 id
          replace y2 := FR.out.cell y2 id
          obtain ⟨Y, hY⟩ : ∃ Y, zs.length = Y := ⟨_, rfl⟩
          rw [hY] at hTl'
          have HY := Lib.hid hY
          have t1 : decide ((Y : Int) ≤ (Q : Int)) = false := by simp; omega
          have t2 : (Q : Int) < (Y : Int) := by omega
          have t3 : (0 : Int) ≤ (Q : Int) := by omega
          have t4 : ¬ Y ≤ Q := by omega
          rw [hY]
          clear hsk hTl hTg hTl' hTg' hcy hY hx hsok HLEN1
          clear hnk
          go_wp2_with fail
          go_quiet (fail)
          go_wp2_with fail
          go_roundw
          case rel => exact ⟨k + 1, by go_num, by omega, by rw [sel_succ so xs k hkl, HS.out, List.length_append, HT.out]; rfl, by rw [sel_succ _ xs k hkl, HS.out, List.length_append, HQ.out]; rfl, by rw [HN.out], (FR.out.drewN _)⟩
          case measure => simp [intOf]; omega
    · obtain rfl : k = n := by omega
      have hka : (chRun ch key (xs.take k)).2.length = ask.length := by rw [HASK.out, HXL.out, List.take_length]
      have c1 := FR.out.cell CX.out.row id
      rw [hka]
      go_wp2_with (go_at_call 14; refine (llives_any _).mono ?_; rintro e w4 ⟨rfl, hf⟩; have F4 := Lib.hid ((F2.out.then_ FR.out).then_ hf); clear hf)
      go_ret
      exact ⟨rfl, F4.out⟩
end Go.Proofs.Ytaenclbbiodhfaa.Part
