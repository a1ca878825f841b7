import Derived.Test.YtajcijocjbakbaaTbK
import Derived.Carry
namespace Go.Proofs.Ytajcijocjbakbaa
open Go.RowKit

/-! ### a set without its addresses -/
abbrev Vk := Int × Int × List En
abbrev Vt := Int × List Vk
def Bk.v (k : Bk) : Vk := (k.at_, k.fired, k.q)
def Tb.v (t : Tb) : Vt := (t.d, t.bs.map Bk.v)
def vw (ts : List Tb) : List Vt := ts.map Tb.v
def vbegun (now : Int) (qs : List (List En)) : List Vk := qs.map fun q => (now, now, q)
theorem begun_v (now : Int) (hs : List Hd) (qs : List (List En)) (h : hs.length = qs.length) : (begun now hs qs).map Bk.v = vbegun now qs := by
  unfold begun vbegun
  rw [List.map_map]
  have : (Bk.v ∘ fun p : Hd × List En => (⟨now, now, p.1, p.2⟩ : Bk)) = (fun q : List En => (now, now, q)) ∘ Prod.snd := rfl
  rw [this, ← List.map_map, List.map_snd_zip (by omega)]
theorem begun_len (now : Int) (hs : List Hd) (qs : List (List En)) (h : hs.length = qs.length) : (begun now hs qs).length = qs.length := by
  unfold begun
  rw [List.length_map, List.length_zip]
  omega
theorem begun_mem {now : Int} {hs : List Hd} {qs : List (List En)} {k : Bk} (hk : k ∈ begun now hs qs) : ∃ (i : Nat) (h1 : i < hs.length) (h2 : i < qs.length), k = ⟨now, now, hs[i], qs[i]⟩ := by
  unfold begun at hk
  obtain ⟨p, hp, rfl⟩ := List.mem_map.1 hk
  obtain ⟨i, hi, rfl⟩ := List.mem_iff_getElem.1 hp
  rw [List.length_zip] at hi
  exact ⟨i, by omega, by omega, by rw [List.getElem_zip]⟩
theorem rehash_mem {nb : Nat} {qs : List (List En)} {q : List En} {x : En} (hq : q ∈ rehash nb qs) (hx : x ∈ q) : ∃ p ∈ qs, x ∈ p := by
  unfold rehash bks at hq
  obtain ⟨b, _, rfl⟩ := List.mem_map.1 hq
  have := (List.mem_filter.1 hx).1
  obtain ⟨p, hp, hx⟩ := List.mem_flatten.1 this
  exact ⟨p, hp, hx⟩
theorem rehash_len (nb : Nat) (qs : List (List En)) : (rehash nb qs).length = 2 ^ nb := bks_len _ _
theorem MpK.empty {κ : Type} (kv : κ → Value) (w : World) : MpK (w.alloc (.map #[] 0)) kv w.heap.size ([] : List (κ × Value)) :=
  ⟨List.nodup_nil, #[], 0, Array.getElem?_push_size, rfl⟩
set_option maxRecDepth 100000 in
set_option maxHeartbeats 1000000 in
theorem new_any (now : Int) (w : World) :
    Calls Try.prog 17 #[.int .u64 now] w fun e w' => ∃ s b ts, e = .returned (.pointer (some ⟨s, 0, none⟩)) ∧ TSet w' w.heap.size s b ts ∧ vw ts = [(2, vbegun now (List.replicate 4 []))] ∧ Frm w w' fun _ => False := by
  have hmm := @run_makeMap Try.prog
  have HRE := Lib.hid (fun V : World => rehash_in none 0 0 2 [] [] V (by omega) (by omega) (OwD.nil V V.heap.size V.heap.size).rd (by decide) (by simp) (by simp) (by simp))
  go_enter Try.func17, Try.ntmps17
  go_wp2_with fail
  refine (HRE.out _).mono ?_
  rintro e w2 ⟨g, hs, rfl, hO, -, hf⟩
  have he : (2 : Nat) ^ 2 = 4 := rfl
  rw [he] at hO ⊢
  have O := Lib.hid hO
  have F2 := Lib.hid (((Frm.refl w fun _ => False).alloc (.map #[] 0)).then_ hf)
  have M2 := Lib.hid ((MpK.empty (fun k : Int => Value.int .i64 k) w).frm hf id)
  have HSZ2 := Lib.hid hf.size
  clear hO hf he
  go_wp2_with fail
  refine (mktable_any _ 4 4 now hs _ _ O.out.rd (by decide)).mono ?_
  rintro e w3 ⟨g2, rfl, hS, hf⟩
  have S := Lib.hid hS
  have F3 := Lib.hid hf
  obtain ⟨w4, h4, hM4, hf4⟩ := (M2.out.frm hf id).update (intL (P := Try.prog) (K := 3) Try.underlying3) Try.underlying59 2 (.slice (some ⟨g2, 0, none⟩) 4 4)
  have M4 := Lib.hid hM4
  have F4 := Lib.hid hf4
  clear hS hf hM4 hf4
  go_wp2_with fail
  go_ret
  have s2 := HSZ2.out
  have s3 := F3.out.size
  have s4 := F4.out.size
  have hb : w.heap.size < w2.heap.size := by simp at s2; omega
  have hfA : Frm w w4 fun _ => False := (F2.out.then_ F3.out).fresh F4.out (fun j hj => by omega)
  have hgS := (S.out.ge ((blk_some _ _ _).2 rfl))
  have hlenO : hs.length = (rehash 2 []).length := by rw [O.out.len, O.out.lenq]
  have hbl : (begun now hs (rehash 2 [])).length = 4 := by rw [begun_len _ _ _ hlenO, rehash_len]
  refine ⟨w4.heap.size, w.heap.size, [⟨2, g2, begun now hs (rehash 2 [])⟩], rfl, ⟨?_, ?_, ?_, ?_, ?_, ?_, ?_⟩, ?_, ?_⟩
  · rw [World.cell?_alloc_new]; rfl
  · have := M4.out.frm ((Frm.refl w4 fun _ => False).alloc (.cells #[.map (some w.heap.size)] 61)) id
    simp [mset] at this
    simpa [Tb.V, hbl] using this
  · omega
  · intro t ht
    obtain rfl := List.mem_singleton.1 ht
    simp only [hbl]
    refine ⟨((S.out.mono (by omega)).frm F4.out (fun j hj e => by have := S.out.ge hj; omega)).new_ ((Frm.refl _ _).alloc _), by decide, by decide, by omega, by omega⟩
  · simp
  · intro t ht k hk
    obtain rfl := List.mem_singleton.1 ht
    obtain ⟨i, h1, h2, rfl⟩ := begun_mem hk
    have hr := O.out.row i h1 h2
    have hr3 := hr.new_ F3.out
    have hal : (w.alloc (.map #[] 0)).heap.size = w.heap.size + 1 := by simp
    rw [hal] at hr hr3
    refine ⟨((hr3.mono (by omega)).frm F4.out (fun j hj e => by have := hr.ge hj; omega)).new_ ((Frm.refl _ _).alloc _), fun j hj => ?_⟩
    have := hr.ge hj
    refine ⟨by omega, by omega, fun t' ht' => ?_⟩
    obtain rfl := List.mem_singleton.1 ht'
    show j ≠ g2
    omega
  · intro t ht k hk x hx
    obtain rfl := List.mem_singleton.1 ht
    obtain ⟨i, h1, h2, rfl⟩ := begun_mem hk
    obtain ⟨p, hp, _⟩ := rehash_mem (List.getElem_mem h2) hx
    cases hp
  · show [((2 : Int), (begun now hs (rehash 2 [])).map Bk.v)] = _
    rw [begun_v _ _ _ hlenO]
    rfl
  · exact hfA.alloc _
end Go.Proofs.Ytajcijocjbakbaa
