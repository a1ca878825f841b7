/- Plain model of the links' set: 192 numbers; what Push, Seek, Cut, At compute on them, and the queue's law. No program in sight. -/
namespace Lk
abbrev St := Nat → Int
def upd (f : St) (i : Nat) (v : Int) : St := fun j => if j = i then v else f j
def thr (t : Int) : Bool := decide (0 ≤ t) && decide (t < 64)
def nx (f : St) (t : Int) : Int := f (t.toNat * 3)
def pv (f : St) (t : Int) : Int := f (t.toNat * 3 + 1)
def tl (f : St) (t : Int) : Int := f (t.toNat * 3 + 2)
def Ok (f : St) : Prop := ∀ i, 0 ≤ f i ∧ f i ≤ 64
def set3 (f : St) (t a b c : Int) : St := upd (upd (upd f (t.toNat * 3) a) (t.toNat * 3 + 1) b) (t.toNat * 3 + 2) c
def push (f : St) (t head : Int) : St := if thr t then (if thr head then set3 f t (head + 1) 0 0 else set3 f t 0 0 (t + 1)) else f
def stop (f : St) (head at_ : Int) : St := upd f (head.toNat * 3 + 2) (tl f at_)
def seekGo (head : Int) : Nat → St → Int → St × Int
  | 0, f, a => (stop f head a, tl f a - 1)
  | n + 1, f, a => if tl f a = 0 then (if thr (nx f a - 1) then seekGo head n (upd f ((nx f a - 1).toNat * 3 + 1) (a + 1)) (nx f a - 1) else (f, -1)) else (stop f head a, tl f a - 1)
def seek (f : St) (head : Int) : St × Int := if thr head then seekGo head 64 f head else (f, -1)
def cut (f : St) (head tail : Int) : St × Int := if thr head && thr tail && !(decide (pv f tail = 0)) then (upd f (head.toNat * 3 + 2) (pv f tail), pv f tail - 1) else (f, -1)

theorem thr_iff (t : Int) : thr t = true ↔ 0 ≤ t ∧ t < 64 := by simp [thr]
theorem thr_no (t : Int) : thr t = false ↔ ¬ (0 ≤ t ∧ t < 64) := by rw [← Bool.not_eq_true, thr_iff]
theorem Ok.upd {f : St} (h : Ok f) (i : Nat) {v : Int} (h0 : 0 ≤ v) (h1 : v ≤ 64) : Ok (upd f i v) := by
  intro j; unfold Lk.upd; split
  · exact ⟨h0, h1⟩
  · exact h j
theorem Ok.push {f : St} (h : Ok f) (t head : Int) : Ok (push f t head) := by
  unfold Lk.push set3
  split
  · rename_i ht; rw [thr_iff] at ht
    split
    · rename_i hh; rw [thr_iff] at hh
      exact ((h.upd _ (by omega) (by omega)).upd _ (by omega) (by omega)).upd _ (by omega) (by omega)
    · exact ((h.upd _ (by omega) (by omega)).upd _ (by omega) (by omega)).upd _ (by omega) (by omega)
  · exact h
theorem Ok.stop {f : St} (h : Ok f) (head a : Int) : Ok (stop f head a) := h.upd _ (h _).1 (h _).2
theorem Ok.seekGo {head : Int} (n : Nat) : ∀ {f : St} {a : Int}, Ok f → 0 ≤ a → a < 64 → Ok (seekGo head n f a).1 := by
  induction n with
  | zero => intro f a h _ _; exact h.stop _ _
  | succ n ih =>
    intro f a h h0 h1
    unfold Lk.seekGo
    split
    · split
      · rename_i ht; rw [thr_iff] at ht
        exact ih (h.upd _ (by omega) (by omega)) ht.1 ht.2
      · exact h
    · exact h.stop _ _
theorem Ok.seek {f : St} (h : Ok f) (head : Int) : Ok (seek f head).1 := by
  unfold Lk.seek
  split
  · rename_i ht; rw [thr_iff] at ht; exact h.seekGo 64 ht.1 ht.2
  · exact h
theorem Ok.cut {f : St} (h : Ok f) (head tail : Int) : Ok (cut f head tail).1 := by
  unfold Lk.cut
  split
  · exact h.upd _ (h _).1 (h _).2
  · exact h
theorem Ok.zero : Ok fun _ => 0 := fun _ => ⟨Int.le_refl _, show (0 : Int) ≤ 64 by decide⟩

theorem upd_same (f : St) (i : Nat) (v : Int) : upd f i v i = v := by simp [upd]
theorem upd_other (f : St) (i j : Nat) (v : Int) (h : j ≠ i) : upd f i v j = f j := by simp [upd, h]

theorem nx_upd1 (f : St) (t u : Int) (v : Int) : nx (upd f (t.toNat * 3 + 1) v) u = nx f u := upd_other _ _ _ _ (by omega)
theorem nx_upd2 (f : St) (t u : Int) (v : Int) : nx (upd f (t.toNat * 3 + 2) v) u = nx f u := upd_other _ _ _ _ (by omega)
theorem tl_upd1 (f : St) (t u : Int) (v : Int) : tl (upd f (t.toNat * 3 + 1) v) u = tl f u := upd_other _ _ _ _ (by omega)
theorem pv_upd2 (f : St) (t u : Int) (v : Int) : pv (upd f (t.toNat * 3 + 2) v) u = pv f u := upd_other _ _ _ _ (by omega)
theorem pv_upd1 (f : St) (t u : Int) (v : Int) (ht : 0 ≤ t) (hu : 0 ≤ u) : pv (upd f (t.toNat * 3 + 1) v) u = if u = t then v else pv f u := by
  unfold pv
  split
  · subst_vars; exact upd_same _ _ _
  · exact upd_other _ _ _ _ (by omega)
theorem tl_upd2 (f : St) (t u : Int) (v : Int) (ht : 0 ≤ t) (hu : 0 ≤ u) : tl (upd f (t.toNat * 3 + 2) v) u = if u = t then v else tl f u := by
  unfold tl
  split
  · subst_vars; exact upd_same _ _ _
  · exact upd_other _ _ _ _ (by omega)
theorem set3_nx (f : St) (t a b c u : Int) (ht : 0 ≤ t) (hu : 0 ≤ u) : nx (set3 f t a b c) u = if u = t then a else nx f u := by
  unfold set3
  rw [nx_upd2, nx_upd1]
  unfold nx
  split
  · subst_vars; exact upd_same _ _ _
  · exact upd_other _ _ _ _ (by omega)
theorem set3_pv (f : St) (t a b c u : Int) (ht : 0 ≤ t) (hu : 0 ≤ u) : pv (set3 f t a b c) u = if u = t then b else pv f u := by
  unfold set3
  rw [pv_upd2, pv_upd1 _ _ _ _ ht hu]
  split
  · rfl
  · exact upd_other _ _ _ _ (by omega)
theorem set3_tl (f : St) (t a b c u : Int) (ht : 0 ≤ t) (hu : 0 ≤ u) : tl (set3 f t a b c) u = if u = t then c else tl f u := by
  unfold set3
  rw [tl_upd2 _ _ _ _ ht hu]
  split
  · rfl
  · rw [tl_upd1]; exact upd_other _ _ _ _ (by omega)

theorem set3_set3 (f : St) (t a b c x y z : Int) : set3 (set3 f t a b c) t x y z = set3 f t x y z := by
  funext i
  simp only [set3, upd]
  split
  · rfl
  · split
    · rfl
    · split
      · rfl
      · rfl

/-! ### the queue -/
/-- The threads g 0 .. g (n-1), the oldest one first, stand in the links f; j is the newest one whose tail is known. -/
structure Inv (f : St) (n : Nat) (g : Nat → Int) (j : Nat) : Prop where
  rng : ∀ i, i < n → 0 ≤ g i ∧ g i < 64
  inj : ∀ a b, a < n → b < n → g a = g b → a = b
  nxt : ∀ i, i + 1 < n → nx f (g (i + 1)) = g i + 1
  jlt : j < n
  jtl : tl f (g j) = g 0 + 1
  atl : ∀ i, j < i → i < n → tl f (g i) = 0
  bpv : ∀ i, i < j → pv f (g i) = g (i + 1) + 1
  hpv : pv f (g (n - 1)) = 0

theorem seekGo_queue {n : Nat} {g : Nat → Int} {j : Nat} (hn : j < n) (rng : ∀ i, i < n → 0 ≤ g i ∧ g i < 64) (inj : ∀ a b, a < n → b < n → g a = g b → a = b) (d : Nat) :
    ∀ (k : Nat) (f : St), d ≤ k → j + d < n → (∀ i, i + 1 < n → nx f (g (i + 1)) = g i + 1) → tl f (g j) = g 0 + 1 → (∀ i, j < i → i < n → tl f (g i) = 0) → (∀ i, i < j → pv f (g i) = g (i + 1) + 1) →
    (seekGo (g (n - 1)) k f (g (j + d))).2 = g 0 ∧
    (∀ u, nx (seekGo (g (n - 1)) k f (g (j + d))).1 u = nx f u) ∧
    (∀ u, 0 ≤ u → tl (seekGo (g (n - 1)) k f (g (j + d))).1 u = if u = g (n - 1) then g 0 + 1 else tl f u) ∧
    (∀ i, i < j + d → pv (seekGo (g (n - 1)) k f (g (j + d))).1 (g i) = g (i + 1) + 1) ∧
    (∀ i, j + d ≤ i → i < n → pv (seekGo (g (n - 1)) k f (g (j + d))).1 (g i) = pv f (g i)) := by
  have hH := rng (n - 1) (by omega)
  have h0 := rng 0 (by omega)
  induction d with
  | zero =>
    intro k f _ _ nxt jtl atl bpv
    have e : seekGo (g (n - 1)) k f (g (j + 0)) = (stop f (g (n - 1)) (g j), tl f (g j) - 1) := by
      cases k with
      | zero => rfl
      | succ k => unfold seekGo; rw [Nat.add_zero, if_neg (by rw [jtl]; omega)]
    rw [e]
    refine ⟨by show tl f (g j) - 1 = g 0; rw [jtl]; omega, fun u => nx_upd2 _ _ _ _, fun u hu => ?_, fun i hi => ?_, fun i hi hin => ?_⟩
    · show tl (stop _ _ _) u = _
      unfold stop
      rw [tl_upd2 _ _ _ _ hH.1 hu, jtl]
    · show pv (stop _ _ _) _ = _
      unfold stop
      rw [pv_upd2]; exact bpv i (by omega)
    · show pv (stop _ _ _) _ = _
      unfold stop
      rw [pv_upd2]
  | succ d ih =>
    intro k f hk hd nxt jtl atl bpv
    obtain ⟨k, rfl⟩ : ∃ m, k = m + 1 := ⟨k - 1, by omega⟩
    have hx : nx f (g (j + (d + 1))) = g (j + d) + 1 := nxt (j + d) (by omega)
    have hr := rng (j + d) (by omega)
    have hr1 := rng (j + (d + 1)) (by omega)
    have e : seekGo (g (n - 1)) (k + 1) f (g (j + (d + 1))) = seekGo (g (n - 1)) k (upd f ((g (j + d)).toNat * 3 + 1) (g (j + (d + 1)) + 1)) (g (j + d)) := by
      conv => lhs; unfold seekGo
      rw [if_pos (atl _ (by omega) (by omega)), hx, show g (j + d) + 1 - 1 = g (j + d) from by omega, if_pos ((thr_iff _).2 hr)]
    rw [e]
    obtain ⟨r1, r2, r3, r4, r5⟩ := ih k (upd f ((g (j + d)).toNat * 3 + 1) (g (j + (d + 1)) + 1)) (by omega) (by omega)
      (fun i hi => by rw [nx_upd1]; exact nxt i hi) (by rw [tl_upd1]; exact jtl) (fun i h1 h2 => by rw [tl_upd1]; exact atl i h1 h2)
      (fun i hi => by rw [pv_upd1 _ _ _ _ hr.1 (rng i (by omega)).1, if_neg (fun e => by have := inj i (j + d) (by omega) (by omega) e; omega)]; exact bpv i hi)
    refine ⟨r1, fun u => (r2 u).trans (nx_upd1 _ _ _ _), fun u hu => (r3 u hu).trans (by rw [tl_upd1]), fun i hi => ?_, fun i hi hin => ?_⟩
    · by_cases hi' : i < j + d
      · exact r4 i hi'
      · obtain rfl : i = j + d := by omega
        rw [r5 _ (Nat.le_refl _) (by omega), pv_upd1 _ _ _ _ hr.1 hr.1, if_pos rfl, Nat.add_assoc]
    · rw [r5 i (by omega) hin, pv_upd1 _ _ _ _ hr.1 (rng i hin).1, if_neg (fun e => by have := inj i (j + d) hin (by omega) e; omega)]

theorem pigeon : ∀ (B n : Nat) (g : Nat → Nat), (∀ i, i < n → g i < B) → (∀ a b, a < n → b < n → g a = g b → a = b) → n ≤ B := by
  intro B
  induction B with
  | zero => intro n g h _; rcases n with _ | n
            · omega
            · have := h 0 (by omega); omega
  | succ B ih =>
    intro n g h inj
    by_cases hx : ∃ i, i < n ∧ g i = B
    · obtain ⟨i, hi, he⟩ := hx
      have := ih (n - 1) (fun k => if k = i then g (n - 1) else g k) (fun k hk => by
          try dsimp only
          split
          · rename_i hki
            have h1 := h (n - 1) (by omega)
            have : g (n - 1) ≠ B := fun e => by have := inj (n - 1) i (by omega) hi (e.trans he.symm); omega
            omega
          · rename_i hki
            have h1 := h k (by omega)
            have : g k ≠ B := fun e => hki (inj k i (by omega) hi (e.trans he.symm))
            omega)
        (fun a b ha hb e => by
          try dsimp only at e
          by_cases ea : a = i <;> by_cases eb : b = i
          · omega
          · rw [if_pos ea, if_neg eb] at e; have := inj (n - 1) b (by omega) (by omega) e; omega
          · rw [if_neg ea, if_pos eb] at e; have := inj a (n - 1) (by omega) (by omega) e; omega
          · rw [if_neg ea, if_neg eb] at e; exact inj a b (by omega) (by omega) e)
      omega
    · have := ih n g (fun k hk => by
        have h1 := h k hk
        have : g k ≠ B := fun e => hx ⟨k, hk, e⟩
        omega) inj
      omega

theorem Inv.le64 {f : St} {n : Nat} {g : Nat → Int} {j : Nat} (h : Inv f n g j) : n ≤ 64 :=
  pigeon 64 n (fun i => (g i).toNat) (fun i hi => by have := h.rng i hi; omega) fun a b ha hb e => by
    have h1 := h.rng a ha
    have h2 := h.rng b hb
    exact h.inj a b ha hb (by omega)

/-- What a look does. -/
theorem Inv.seek {f : St} {n : Nat} {g : Nat → Int} {j : Nat} (h : Inv f n g j) :
    (Lk.seek f (g (n - 1))).2 = g 0 ∧ Inv (Lk.seek f (g (n - 1))).1 n g (n - 1) := by
  have hn := h.jlt
  have h64 := h.le64
  have hH := h.rng (n - 1) (by omega)
  have q := seekGo_queue hn h.rng h.inj (n - 1 - j) 64 f (by omega) (by omega) h.nxt h.jtl h.atl h.bpv
  rw [show j + (n - 1 - j) = n - 1 from by omega] at q
  obtain ⟨r1, r2, r3, r4, r5⟩ := q
  have e : Lk.seek f (g (n - 1)) = seekGo (g (n - 1)) 64 f (g (n - 1)) := by unfold Lk.seek; rw [if_pos ((thr_iff _).2 hH)]
  rw [e]
  exact ⟨r1, ⟨h.rng, h.inj, fun i hi => by rw [r2]; exact h.nxt i hi, by omega, by rw [r3 _ hH.1, if_pos rfl], fun i h1 h2 => by omega, fun i hi => r4 i hi, by rw [r5 _ (Nat.le_refl _) (by omega)]; exact h.hpv⟩⟩

/-- What a cut behind a look does. -/
theorem Inv.cut {f : St} {n : Nat} {g : Nat → Int} (h : Inv f n g (n - 1)) :
    (n = 1 → Lk.cut f (g (n - 1)) (g 0) = (f, -1)) ∧ (1 < n → (Lk.cut f (g (n - 1)) (g 0)).2 = g 1 ∧ Inv (Lk.cut f (g (n - 1)) (g 0)).1 (n - 1) (fun i => g (i + 1)) (n - 2)) := by
  have hn := h.jlt
  have hH := h.rng (n - 1) (by omega)
  have h0 := h.rng 0 (by omega)
  refine ⟨fun e => ?_, fun e => ?_⟩
  · subst e
    unfold Lk.cut
    have hp : pv f (g 0) = 0 := h.hpv
    rw [hp]
    simp
  · have hp : pv f (g 0) = g 1 + 1 := h.bpv 0 (by omega)
    have h1 := h.rng 1 e
    have hc : Lk.cut f (g (n - 1)) (g 0) = (upd f ((g (n - 1)).toNat * 3 + 2) (g 1 + 1), g 1 + 1 - 1) := by
      unfold Lk.cut
      rw [hp, (thr_iff _).2 hH, (thr_iff _).2 h0, if_pos (by simp; omega)]
    rw [hc]
    refine ⟨by show g 1 + 1 - 1 = g 1; omega, ⟨fun i hi => h.rng (i + 1) (by omega), fun a b ha hb e => by have := h.inj (a + 1) (b + 1) (by omega) (by omega) e; omega, fun i hi => ?_, by omega, ?_, fun i h1 h2 => by omega, fun i hi => ?_, ?_⟩⟩
    · rw [nx_upd2]; exact h.nxt (i + 1) (by omega)
    · show tl _ (g (n - 2 + 1)) = g (0 + 1) + 1
      rw [show n - 2 + 1 = n - 1 from by omega, tl_upd2 _ _ _ _ hH.1 hH.1, if_pos rfl]
    · rw [pv_upd2]; exact h.bpv (i + 1) (by omega)
    · show pv _ (g (n - 1 - 1 + 1)) = 0
      rw [show n - 1 - 1 + 1 = n - 1 from by omega, pv_upd2]; exact h.hpv

/-- What a push ahead of the newest one does. -/
theorem Inv.push {f : St} {n : Nat} {g : Nat → Int} {j : Nat} (h : Inv f n g j) {t : Int} (h0 : 0 ≤ t) (h1 : t < 64) (hne : ∀ i, i < n → g i ≠ t) :
    Inv (Lk.push f t (g (n - 1))) (n + 1) (fun i => if i = n then t else g i) j := by
  have hn := h.jlt
  have hH := h.rng (n - 1) (by omega)
  have e : Lk.push f t (g (n - 1)) = set3 f t (g (n - 1) + 1) 0 0 := by unfold Lk.push; rw [if_pos ((thr_iff _).2 ⟨h0, h1⟩), if_pos ((thr_iff _).2 hH)]
  rw [e]
  have old : ∀ i, i < n → (if i = n then t else g i) = g i := fun i hi => if_neg (by omega)
  refine ⟨fun i hi => ?_, fun a b ha hb e => ?_, fun i hi => ?_, by omega, ?_, fun i h2 h3 => ?_, fun i hi => ?_, ?_⟩
  · (try dsimp only); split
    · exact ⟨h0, h1⟩
    · exact h.rng i (by omega)
  · try dsimp only at e
    by_cases ea : a = n <;> by_cases eb : b = n
    · omega
    · rw [if_pos ea, old b (by omega)] at e; exact absurd e.symm (hne b (by omega))
    · rw [if_pos eb, old a (by omega)] at e; exact absurd e (hne a (by omega))
    · rw [old a (by omega), old b (by omega)] at e; exact h.inj a b (by omega) (by omega) e
  · try dsimp only
    rw [old i (by omega)]
    by_cases ei : i + 1 = n
    · rw [if_pos ei, set3_nx _ _ _ _ _ _ h0 h0, if_pos rfl, show n - 1 = i from by omega]
    · rw [old (i + 1) (by omega), set3_nx _ _ _ _ _ _ h0 (h.rng (i + 1) (by omega)).1, if_neg (hne (i + 1) (by omega))]; exact h.nxt i (by omega)
  · try dsimp only
    rw [old j hn, old 0 (by omega), set3_tl _ _ _ _ _ _ h0 (h.rng j hn).1, if_neg (hne j hn)]; exact h.jtl
  · try dsimp only
    by_cases ei : i = n
    · rw [if_pos ei, set3_tl _ _ _ _ _ _ h0 h0, if_pos rfl]
    · rw [old i (by omega), set3_tl _ _ _ _ _ _ h0 (h.rng i (by omega)).1, if_neg (hne i (by omega))]; exact h.atl i h2 (by omega)
  · try dsimp only
    rw [old i (by omega), old (i + 1) (by omega), set3_pv _ _ _ _ _ _ h0 (h.rng i (by omega)).1, if_neg (hne i (by omega))]; exact h.bpv i hi
  · show pv _ (if n + 1 - 1 = n then t else _) = 0
    rw [if_pos (by omega), set3_pv _ _ _ _ _ _ h0 h0, if_pos rfl]

/-- The first push. -/
theorem Inv.first (f : St) {t : Int} (h0 : 0 ≤ t) (h1 : t < 64) (head : Int) (hh : thr head = false) : Inv (Lk.push f t head) 1 (fun _ => t) 0 := by
  have e : Lk.push f t head = set3 f t 0 0 (t + 1) := by unfold Lk.push; rw [if_pos ((thr_iff _).2 ⟨h0, h1⟩), hh, if_neg (by decide)]
  rw [e]
  exact ⟨fun _ _ => ⟨h0, h1⟩, fun a b ha hb _ => by omega, fun i hi => by omega, by omega, by rw [set3_tl _ _ _ _ _ _ h0 h0, if_pos rfl], fun i h1 h2 => by omega, fun i hi => by omega, by rw [set3_pv _ _ _ _ _ _ h0 h0, if_pos rfl]⟩
end Lk
