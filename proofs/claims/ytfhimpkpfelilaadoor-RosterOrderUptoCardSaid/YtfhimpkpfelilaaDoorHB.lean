/- chapter 26: IndexFunc, DeleteFunc; rows in order; a roster of names -/
import Derived.Test.YtfhimpkpfelilaaDoorHA
namespace Go.Proofs.YtfhimpkpfelilaaDoor
open Go.GV Go.RowKit Go.Lib
set_option linter.unusedVariables false
set_option linter.unusedSimpArgs false
theorem take_snoc {l : List Bs} {i : Nat} {x : Bs} (h : l[i]? = some x) : l.take (i + 1) = l.take i ++ [x] := by rw [List.take_add_one, h]; rfl
theorem rf_sl {B b : Nat} {w u : World} {A : Option Addr} {n : Nat} {vs : List Value} (f : Fr (RF B b) w u) (h : Sl w 1 A n vs) (hS : ∀ k, blkOf A = some k → k ≠ b ∧ k < B) : Sl u 1 A n vs := f.sl h (fun _ k hk hr => by
  have := hS k hk
  rcases hr with hr | hr
  · exact this.1 hr
  · omega)
theorem vkn_rf {N B b : Nat} {w u : World} (h : VKN N w) (f : Fr (RF B b) w u) (hN : N ≤ b) (hB : b < B) : VKN N u := h.fr f (fun g hg hr => by
  rcases hr with hr | hr <;> omega)
theorem ifunc_calls (N B b : Nat) (A : Option Addr) (n c : Nat) (l : List Bs) (w : World) (h : Sl w 1 A n (bvs l)) (hS : ∀ k, blkOf A = some k → k ≠ b ∧ k < B) (hR : RS B b w (rowsOf [])) (hv : VKN N w) (hN : N ≤ b) (hn : n ≤ 1048576) (hx : ∀ x ∈ l, x.length ≤ 1048576) :
    Calls Tryd.prog 19 #[.slice A n c, .func (.func 8) #[.pointer (some ⟨b, 0, none⟩)] #[]] w fun e w' => ∃ i : Int, e = .returned (.int .i64 i) ∧ Fr (RF B b) w w' ∧ ((i = -1 ∧ oth l = l ∧ RS B b w' (rowsOf l)) ∨ ∃ (k : Nat) (x : Bs), i = (k : Int) ∧ l[k]? = some x ∧ (num x).1 ≠ 0 ∧ oth (l.take k) = l.take k ∧ RS B b w' (rowsOf (l.take (k + 1)))) := by
  refine (F19s.of A n c (b, 0) w (Q := fun v w' => ∃ i : Int, v = .int .i64 i ∧ Fr (RF B b) w w' ∧ ((i = -1 ∧ oth l = l ∧ RS B b w' (rowsOf l)) ∨ ∃ (k : Nat) (x : Bs), i = (k : Int) ∧ l[k]? = some x ∧ (num x).1 ≠ 0 ∧ oth (l.take k) = l.take k ∧ RS B b w' (rowsOf (l.take (k + 1))))) ?_).mono (fun e w' ⟨v, he, i, hv, h⟩ => ⟨i, by rw [he, hv], h⟩)
  have hl := bs_n h
  obtain ⟨_, _, hR0⟩ := id hR
  have hbB := hR0.lt
  refine jnC_mk (loop_rule (fun s v => Fr (RF B b) w v ∧ ∃ i : Nat, i ≤ n ∧ s = ((A, n, c), (b, 0), (n : Int), (i : Int), ()) ∧ RS B b v (rowsOf (l.take i)) ∧ oth (l.take i) = l.take i)
    (fun s _ => (n - s.2.2.2.1).toNat) ?_ _ _ ⟨Fr.refl _ _, 0, by omega, rfl, by rw [List.take_zero]; exact hR, by rw [List.take_zero]; rfl⟩)
  rintro s v C ⟨hf, i, hi, rfl, hRi, ho⟩ hC _
  refine vIf_mk (fun hlt => ?_) (fun hge => ?_)
  · have hlt2 : (i : Int) < (n : Int) := of_decide_eq_true hlt
    have gi : l[i]? = some (l[i]'(by omega)) := List.getElem?_eq_getElem (by omega)
    generalize l[i]'(by omega) = x at gi
    have lx := hx x (List.mem_of_getElem? gi)
    have hv1 := vkn_rf hv hf hN hbB
    refine bs_rd (rf_sl hf h hS) (by omega) gi ((add_calls B b (l.take i) x v hRi hv1.vk (by rw [List.length_take]; omega) (by omega)).mono ?_)
    rintro e v1 ⟨rfl, f1, h1⟩
    rw [← take_snoc gi] at h1
    refine ⟨_, rfl, vIf_mk (fun ht => ?_) (fun ht => jnC_mk (hC _ _ ⟨hf.trans f1 (fun _ _ h => h) (fun _ _ h => h), i + 1, by omega, by rw [ei i (by omega)], h1, ?_⟩ ?_))⟩
    · have ht : ¬ (num x).1 = 0 := by simpa using ht
      exact ⟨_, rfl, hf.trans f1 (fun _ _ h => h) (fun _ _ h => h), .inr ⟨i, x, rfl, gi, ht, ho, h1⟩⟩
    · have ht : (num x).1 = 0 := by simpa using ht
      rw [take_snoc gi, oth_snoc, if_pos ht, ho]
    · show ((n : Int) - IntKind.wrap .i64 ((i : Int) + 1)).toNat < ((n : Int) - (i : Int)).toNat
      rw [ei i (by omega)]; omega
  · have hge2 : ¬ (i : Int) < (n : Int) := of_decide_eq_false hge
    have e : l.take i = l := List.take_of_length_le (by omega)
    rw [e] at hRi ho
    exact ⟨_, rfl, hf, .inl ⟨rfl, ho, hRi⟩⟩
/-- the tail of a row of texts is cleared -/
theorem clear_v {w : World} {B : Nat} {e : TypeId} {b n c k : Nat} {P : List Bs} {K : World → Prop} (hr : Row w B e 1 (some ⟨b, 0, none⟩) n c (bvs P)) (hk : k < n)
    (hK : ∀ w', Row w' B e 1 (some ⟨b, 0, none⟩) k c (bvs (P.take k)) → Fr (fun j => j = b) w w' → K w') : dr (slA (some (⟨b, 0, none⟩ : Addr)) c k 1) fun b o => st w b o (zeros (n - k) [Value.string (⟨#[]⟩ : ByteArray)]) K := by
  have hle := hr.le
  have hPl := bs_n hr.sl
  have hsk : slA (some (⟨b, 0, none⟩ : Addr)) c k 1 = some ⟨b, 0 + k * 1, none⟩ := by
    unfold slA
    rw [if_neg (by omega), Option.map_some, add_none]
  rw [hsk]
  refine row_put (A := some ⟨b, 0, none⟩) (o' := k * 1) hr (by omega) (by rw [zeros_length]; simp; omega) (fun v hv => ?_) (fun u2 hr2 f2 => hK u2 ?_ (f2.mono (fun j _ hj => by simpa [blkOf] using hj.symm)))
  · simp only [zeros, List.mem_flatten, List.mem_replicate] at hv
    obtain ⟨l, ⟨_, rfl⟩, hv⟩ := hv
    simp at hv; subst hv; rfl
  · have hcut := row_cut hr2 (k := k) (by omega)
    have e : (splice (bvs P) (k * 1) (zeros (n - k) [Value.string (⟨#[]⟩ : ByteArray)])).take (k * 1) = bvs (P.take k) := by
      unfold splice
      rw [List.append_assoc, List.take_append_of_le_length (by rw [List.length_take, bvs_len]; omega), List.take_take, Nat.min_self, Nat.mul_one, bvs_take]
    rw [e] at hcut
    exact hcut
set_option maxHeartbeats 1000000 in
theorem delete_calls (N B b B0 : Nat) (e0 : TypeId) (A : Option Addr) (n c : Nat) (l : List Bs) (w : World) (h : Row w B0 e0 1 A n c (bvs l)) (hS : ∀ k, blkOf A = some k → k ≠ b ∧ k < B ∧ N ≤ k) (hR : RS B b w (rowsOf [])) (hv : VKN N w) (hN : N ≤ b) (hn : n ≤ 1048576) (hx : ∀ x ∈ l, x.length ≤ 1048576) :
    Calls Tryd.prog 9 #[.slice A n c, .func (.func 8) #[.pointer (some ⟨b, 0, none⟩)] #[]] w fun e w' => ∃ c', e = .returned (.slice A (oth l).length c') ∧ Fr (fun k => RF B b k ∨ blkOf A = some k) w w' ∧ RS B b w' (rowsOf l) ∧ Row w' B0 e0 1 A (oth l).length c' (bvs (oth l)) := by
  refine (F9s.of A n c (b, 0) w (Q := fun v w' => ∃ c', v = .slice A (oth l).length c' ∧ Fr (fun k => RF B b k ∨ blkOf A = some k) w w' ∧ RS B b w' (rowsOf l) ∧ Row w' B0 e0 1 A (oth l).length c' (bvs (oth l))) ?_).mono (fun e w' ⟨v, he, c', hv, h⟩ => ⟨c', by rw [he, hv], h⟩)
  have hl := bs_n h.sl
  obtain ⟨_, _, hR0⟩ := id hR
  have hbB := hR0.lt
  have hle := h.le
  refine (ifunc_calls N B b A n c l w h.sl (fun k hk => ⟨(hS k hk).1, (hS k hk).2.1⟩) hR hv hN hn hx).mono ?_
  rintro e w1 ⟨i, rfl, f1, hi⟩
  have h1 := f1.row h (fun k hk hr => by
    have := hS k hk
    rcases hr with hr | hr
    · exact this.1 hr
    · omega)
  have f1' : Fr (fun k => RF B b k ∨ blkOf A = some k) w w1 := f1.mono (fun _ _ h => .inl h)
  refine ⟨_, rfl, vIf_mk (fun hm => ?_) (fun hm => ?_)⟩
  · have hm : i = -1 := by simpa using hm
    rcases hi with ⟨_, ho, hRl⟩ | ⟨k, _, hk, _⟩
    · exact ⟨c, by rw [ho, hl], f1', hRl, by rw [ho, hl]; exact h1⟩
    · omega
  have hm : ¬ i = -1 := by simpa using hm
  rcases hi with ⟨h', _⟩ | ⟨k, x0, rfl, gk, hk0, hok, hRk⟩
  · exact absurd h' hm
  have hkl := (List.getElem?_eq_some_iff.1 gk).1
  obtain ⟨bc, rfl⟩ : ∃ bc, A = some ⟨bc, 0, none⟩ := by
    rcases h.at_ with ⟨_, h0, _⟩ | ⟨b, _, hA, _⟩
    · omega
    · exact ⟨b, hA⟩
  have hbc := hS bc rfl
  have hok1 : oth (l.take (k + 1)) = l.take k := by rw [take_snoc gk, oth_snoc, if_neg hk0, hok]
  refine jnC_mk (loop_rule (fun s v => Fr (fun k => RF B b k ∨ blkOf (some (⟨bc, 0, none⟩ : Addr)) = some k) w v ∧ VKN N v ∧ ∃ (j : Nat) (P : List Bs), j ≤ n ∧ P.length = n ∧ (oth (l.take j)).length < j ∧
      s = ((some ⟨bc, 0, none⟩, n, c), (b, 0), (((oth (l.take j)).length : Nat) : Int), (j : Int), ()) ∧ Row v B0 e0 1 (some ⟨bc, 0, none⟩) n c (bvs P) ∧ RS B b v (rowsOf (l.take j)) ∧ P.take (oth (l.take j)).length = oth (l.take j) ∧ (∀ q, j ≤ q → P[q]? = l[q]?))
    (fun s _ => (n - s.2.2.2.1).toNat) ?_ _ _ ⟨f1', vkn_rf hv f1 hN hbB, k + 1, l, by omega, hl, ?_, ?_, h1, hRk, ?_, fun q _ => rfl⟩)
  rotate_left
  · rw [hok1, List.length_take]; omega
  · rw [hok1, ei k (by omega), List.length_take, Nat.min_eq_left (by omega)]
  · rw [hok1, List.length_take, Nat.min_eq_left (by omega)]
  rintro s v C ⟨hf, hvv, j, P, hj, hPl, hoj, rfl, hr, hRj, htk, hget⟩ hC _
  have hol : (oth (l.take j)).length ≤ n := by omega
  generalize hq : (oth (l.take j)).length = q at hoj htk hol
  have enext : IntKind.wrap .i64 ((j : Int) + 1) = ((j + 1 : Nat) : Int) := ei j (by omega)
  refine vIf_mk (fun hlt => ?_) (fun hge => ?_)
  · have hlt2 : (j : Int) < (n : Int) := of_decide_eq_true hlt
    have gj : l[j]? = some (l[j]'(by omega)) := List.getElem?_eq_getElem (by omega)
    generalize l[j]'(by omega) = x at gj
    have lx := hx x (List.mem_of_getElem? gj)
    have pj : P[j]? = some x := (hget j (Nat.le_refl _)).trans gj
    refine bs_rd hr.sl (by omega) pj ((add_calls B b (l.take j) x v hRj hvv.vk (by rw [List.length_take]; omega) (by omega)).mono ?_)
    rintro e v1 ⟨rfl, g1, hR1⟩
    rw [← take_snoc gj] at hR1
    have hv1 := vkn_rf hvv g1 hN hbB
    have hr1 := g1.row hr (fun k hk hrf => by
      have := hS k hk
      rcases hrf with hrf | hrf
      · exact this.1 hrf
      · omega)
    have hf1 : Fr (fun k => RF B b k ∨ blkOf (some (⟨bc, 0, none⟩ : Addr)) = some k) w v1 := hf.trans g1 (fun _ _ h => h) (fun _ _ h => .inl h)
    refine ⟨_, rfl, vIf_mk (fun ht => ?_) (fun ht => ?_)⟩
    · have ht : (num x).1 = 0 := by simpa using ht
      have hnx : oth (l.take (j + 1)) = oth (l.take j) ++ [x] := by rw [take_snoc gj, oth_snoc, if_pos ht]
      refine put_v (k := q) hr1 (by show q < n; omega) (fun v hv => by simp at hv; subst hv; rfl) (fun v2 hr2 g2 => jnC_mk (hC _ _ ⟨?_, ?_, j + 1, P.set q x, by omega, by simpa using hPl, ?_, ?_, ?_, ?_, ?_, fun q' hq' => ?_⟩ ?_))
      · exact hf1.trans g2 (fun _ _ h => h) (fun _ _ h => .inr h)
      · refine hv1.fr g2 (fun g hg hk => ?_)
        have := hS g hk; omega
      · rw [hnx, List.length_append, hq]; simp; omega
      · rw [hnx, List.length_append, hq, enext]
        show (_, _, IntKind.wrap .i64 ((q : Int) + 1), _, ()) = _
        rw [ei q (by omega)]; rfl
      · rw [bvs_set P q x (by omega)]; exact hr2
      · refine hR1.fr g2 (fun k hk => ?_)
        have := hS k hk
        exact ⟨this.1, this.2.1⟩
      · rw [hnx, List.length_append, hq]
        show (P.set q x).take (q + 1) = _
        rw [List.take_add_one, List.getElem?_set_self (by omega), Option.toList_some, List.take_set_of_le (Nat.le_refl q), htk]
      · rw [List.getElem?_set_ne (by omega)]
        exact hget q' (by omega)
      · show ((n : Int) - IntKind.wrap .i64 ((j : Int) + 1)).toNat < ((n : Int) - (j : Int)).toNat
        rw [enext]; omega
    · have ht : ¬ (num x).1 = 0 := by simpa using ht
      have hnx : oth (l.take (j + 1)) = oth (l.take j) := by rw [take_snoc gj, oth_snoc, if_neg ht]
      refine jnC_mk (hC _ _ ⟨hf1, hv1, j + 1, P, by omega, hPl, by rw [hnx, hq]; omega, by rw [hnx, hq, enext], hr1, hR1, by rw [hnx, hq]; exact htk, fun q' hq' => hget q' (by omega)⟩ ?_)
      show ((n : Int) - IntKind.wrap .i64 ((j : Int) + 1)).toNat < ((n : Int) - (j : Int)).toNat
      rw [enext]; omega
  · have hge2 : ¬ (j : Int) < (n : Int) := of_decide_eq_false hge
    have hjn : j = n := by omega
    subst hjn
    have etk : l.take j = l := List.take_of_length_le (by omega)
    rw [etk] at hq htk hRj
    dsimp only
    refine gd_mk (decide_eq_true (by omega)) (gd_mk (decide_eq_true (by omega)) (vIf_f (by rw [Int.toNat_natCast]; simp; omega) ?_))
    rw [Int.toNat_natCast]
    refine clear_v hr (by omega) (fun v2 hr2 g2 => jnC_mk (fun _ => gd_mk (decide_eq_true (by show (0 : Int) ≤ (q : Int); omega)) (gd_mk (decide_eq_true (by show (q : Int) ≤ (c : Int); omega)) ⟨c, ?_, ?_, ?_, ?_⟩)))
    · show Value.slice (slA (some ⟨bc, 0, none⟩) c 0 1) ((q : Int).toNat) c = _
      rw [Int.toNat_natCast, slA_zero, hq]
    · exact hf.trans g2 (fun _ _ h => h) (fun k _ h => .inr (by show some bc = some k; rw [show k = bc from h]))
    · refine hRj.fr g2 (fun k hk => ?_)
      have hk : k = bc := hk
      subst hk
      exact ⟨hbc.1, hbc.2.1⟩
    · rw [hq, ← htk]; exact hr2
/-! ### a row in order, each once -/
theorem rowI_calls (B : Nat) (A : Option Addr) (n c : Nat) (l : List Int) (w : World) (h : Row w B 3 1 A n c (ivs l)) (hn : n ≤ 1099511627776) :
    Calls Tryd.prog 11 #[.slice A n c] w fun e w' => e = .returned (.slice A (norm l).length c) ∧ Fr (fun k => blkOf A = some k) w w' ∧ Row w' B 3 1 A (norm l).length c (ivs (norm l)) := by
  refine (F11.of A n c w (Q := fun v w' => v = .slice A (norm l).length c ∧ Fr (fun k => blkOf A = some k) w w' ∧ Row w' B 3 1 A (norm l).length c (ivs (norm l))) ?_).mono (fun e w' ⟨v, he, hv, h⟩ => ⟨by rw [he, hv], h⟩)
  have hl := sl_n h.sl
  have fin : ∀ (u : World) (r : List Int), Fr (fun k => blkOf A = some k) w u → Row u B 3 1 A n c (ivs r) → r.Perm l → r.Pairwise (· ≤ ·) →
      Calls Tryd.prog 21 #[.slice A n c] u fun e4 w3 => ∃ (A5 : Option Addr) (n6 c7 : Nat), e4 = .returned (.slice A5 n6 c7) ∧ (Value.slice A5 n6 c7 = .slice A (norm l).length c ∧ Fr (fun k => blkOf A = some k) w w3 ∧ Row w3 B 3 1 A (norm l).length c (ivs (norm l))) := by
    intro u r fu hr hp hs
    have hrl := sl_n hr.sl
    have e : cpt r n = norm l := norm_eq (cpt_asc hs n (by omega)) (fun y => by rw [cpt_mem, List.take_of_length_le (by omega)]; exact hp.mem_iff)
    refine (compact_int B _ A c r n u hr hn).mono ?_
    rintro e8 w8 ⟨rfl, f8, h8⟩
    rw [e] at h8 ⊢
    exact ⟨_, _, _, rfl, rfl, fu.trans f8 (fun _ _ h => h) (fun _ _ h => h), h8⟩
  cases A with
  | none =>
    have hn0 : n = 0 ∧ c = 0 := by
      rcases h.at_ with ⟨_, h', h''⟩ | ⟨_, _, h', _⟩
      · exact ⟨h', h''⟩
      · cases h'
    obtain ⟨rfl, rfl⟩ := hn0
    have : l = [] := List.length_eq_zero_iff.1 hl
    subst this
    refine (sort_nil 0 w).mono ?_
    rintro e w2 ⟨rfl, rfl⟩
    exact ⟨rfl, fin w2 [] (Fr.refl _ _) h (List.Perm.refl _) List.Pairwise.nil⟩
  | some a =>
    obtain ⟨b, rfl⟩ : ∃ b, a = ⟨b, 0, none⟩ := by
      rcases h.at_ with ⟨h', _⟩ | ⟨b, _, h', _⟩
      · cases h'
      · exact ⟨b, Option.some.inj h'⟩
    refine (sort_int B _ b c l n w h (by omega)).mono ?_
    rintro e w2 ⟨rfl, f2, r, hr, hp, hs⟩
    exact ⟨rfl, fin w2 r (f2.mono (fun k _ hk => by subst hk; rfl)) hr hp hs⟩
end Go.Proofs.YtfhimpkpfelilaaDoor
