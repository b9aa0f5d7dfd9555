/- chapter 21: DeleteFunc on a table; there, Count, List, Names -/
import Derived.Test.YtklanoocjlpemaaHE
import Derived.Test.YtklanoocjlpemaaLDgR
namespace Go.Proofs.Ytklanoocjlpemaa
open Go.GV Go.RowKit Go.Lib
set_option linter.unusedVariables false
set_option linter.unusedSimpArgs false
theorem gcl_calls {P : Nat → Prop} (e : Tn) (cs : List Value) (w : World) (h : TnP P w cs e) :
    Calls Try.prog 40 #[ofL cs] w fun r w' => r = .returned (.bool e.g) ∧ Fr (fun _ => False) w w' := by
  refine (F40.of cs w (Q := fun v w' => v = .bool e.g ∧ Fr (fun _ => False) w w') ?_).mono (fun e w' ⟨v, he, hv, h⟩ => ⟨by rw [he, hv], h⟩)
  refine nw_mk ?_
  have f1 : Fr (fun _ => False) w (w.alloc (.cells cs.toArray 34)) := Fr.alloc _ _ _
  have r1 := RecAt.new w cs 34
  generalize w.alloc (.cells cs.toArray 34) = w1 at f1 r1 ⊢
  exact ⟨e.g, c_gone h (rec_all r1), rfl, f1⟩
theorem thereL_len (l : List Tn) : (thereL l).length ≤ l.length := List.length_filter_le _ _
theorem idxT_calls {P : Nat → Prop} (A : Option Addr) (n c : Nat) (l : List Tn) (w : World) (h : RT P w A n l) (hn : n ≤ 17179869184) :
    Calls Try.prog 51 #[.slice A n c, .func (.func 40) #[] #[]] w fun e w' => Fr (fun _ => False) w w' ∧ ((∃ i : Nat, i < n ∧ e = .returned (.int .i64 i) ∧ thereL (l.take i) = l.take i ∧ ∃ y, l[i]? = some y ∧ y.g = true) ∨ (e = .returned (.int .i64 (-1)) ∧ thereL l = l)) := by
  refine (F51s.of A n c w (Q := fun v w' => Fr (fun _ => False) w w' ∧ ((∃ i : Nat, i < n ∧ v = .int .i64 i ∧ thereL (l.take i) = l.take i ∧ ∃ y, l[i]? = some y ∧ y.g = true) ∨ (v = .int .i64 (-1) ∧ thereL l = l))) ?_).mono (fun e w' ⟨v, he, hf, hv⟩ => ⟨hf, by
    rcases hv with ⟨i, h1, h2, h3⟩ | ⟨h1, h2⟩
    · exact .inl ⟨i, h1, by rw [he, h2], h3⟩
    · exact .inr ⟨by rw [he, h1], h2⟩⟩)
  have hl := h.len
  refine jnC_mk (loop_rule (fun s u => Fr (fun _ => False) w u ∧ ∃ i : Nat, i ≤ n ∧ s = ((A, n, c), (), (n : Int), (i : Int), ()) ∧ thereL (l.take i) = l.take i) (fun s _ => (n - s.2.2.2.1).toNat) ?_ _ _ ⟨Fr.refl _ _, 0, by omega, rfl, rfl⟩)
  rintro s u C ⟨hf, i, hi, rfl, hk⟩ hC _
  refine vIf_mk (fun hlt => ?_) (fun hge => ?_)
  · have hlt2 : (i : Int) < (n : Int) := of_decide_eq_true hlt
    have gi : l[i]? = some (l[i]'(by omega)) := List.getElem?_eq_getElem (by omega)
    generalize l[i]'(by omega) = x at gi
    have hsn := thereL_step gi
    refine t_rd (h.fr0 hf) gi (fun b o cs hA hT hc => ⟨cs, hT.len, hc, (gcl_calls x cs u hT).mono ?_⟩)
    rintro r u2 ⟨rfl, f2⟩
    refine ⟨_, rfl, vIf_mk (fun hg => ⟨hf.trans1 f2, .inl ⟨i, by omega, rfl, hk, x, gi, hg⟩⟩) (fun hg => ?_)⟩
    rw [if_neg (by rw [hg]; decide), hk] at hsn
    refine jnC_mk (hC _ _ ⟨hf.trans1 f2, i + 1, by omega, by rw [ei i (by omega)], ?_⟩ ?_)
    · rw [hsn, List.take_add_one, gi]; rfl
    · show ((n : Int) - IntKind.wrap .i64 ((i : Int) + 1)).toNat < ((n : Int) - (i : Int)).toNat
      rw [ei i (by omega)]; omega
  · have hge2 : ¬ (i : Int) < (n : Int) := of_decide_eq_false hge
    rw [List.take_of_length_le (by omega)] at hk
    exact ⟨hf, .inr ⟨rfl, hk⟩⟩
theorem row_clearT {w : World} {B : Nat} {e : TypeId} {b n c k : Nat} {vs : List Value} {K : World → Prop} (hr : Row w B e 38 (some ⟨b, 0, none⟩) n c vs) (hk : k < n)
    (hK : ∀ w', Row w' B e 38 (some ⟨b, 0, none⟩) k c (vs.take (k * 38)) → Fr (fun j => j = b) w w' → K w') : dr (slA (some (⟨b, 0, none⟩ : Addr)) c k 38) fun b o => st w b o (zeros (n - k) Z34) K := by
  have hle := hr.le
  have hvl := hr.len
  rw [slA_some _ _ _ _ (by omega)]
  refine row_put (A := some ⟨b, 0, none⟩) (o' := k * 38) hr (by omega) (by rw [zeros_length, z35]; omega) (fun v hv => ?_) (fun u2 hr2 f2 => hK u2 ?_ (f2.mono (fun j _ hj => by simpa [blkOf] using hj.symm)))
  · simp only [zeros, List.mem_flatten, List.mem_replicate] at hv
    obtain ⟨l, ⟨_, rfl⟩, hv⟩ := hv
    exact z34o v hv
  · have hcut := row_cut hr2 (k := k) (by omega)
    have e : (splice vs (k * 38) (zeros (n - k) Z34)).take (k * 38) = vs.take (k * 38) := by
      unfold splice
      rw [List.append_assoc, List.take_append_of_le_length (by rw [List.length_take]; omega), List.take_take, Nat.min_self]
    rw [e] at hcut
    exact hcut
set_option maxHeartbeats 1000000 in
set_option maxRecDepth 10000 in
theorem delT_calls {P : Nat → Prop} (B : Nat) (A : Option Addr) (n c : Nat) (l : List Tn) (w : World) (h : OT P w B A n c l) (hn : n ≤ 1000000000) :
    Calls Try.prog 39 #[.slice A n c, .func (.func 40) #[] #[]] w fun e' w' => e' = .returned (.slice A (thereL l).length c) ∧ Fr (fun k => blkOf A = some k) w w' ∧ OT P w' B A (thereL l).length c (thereL l) := by
  refine (F39s.of A n c w (Q := fun v w' => v = .slice A (thereL l).length c ∧ Fr (fun k => blkOf A = some k) w w' ∧ OT P w' B A (thereL l).length c (thereL l)) ?_).mono (fun e w' ⟨v, he, hv, h⟩ => ⟨by rw [he, hv], h⟩)
  have hrl := h.rt.len
  refine (idxT_calls A n c l w h.rt (by omega)).mono ?_
  rintro e1 w1 ⟨f1, h1⟩
  have hO1 := h.fr0 f1
  have f1' : Fr (fun k => blkOf A = some k) w w1 := f1.mono (fun _ _ h => h.elim)
  rcases h1 with ⟨i0, hi0, rfl, hk0, d0, g0, hd0⟩ | ⟨rfl, hk⟩
  rotate_left
  · refine ⟨_, rfl, vIf_t rfl ⟨by rw [hk, hrl], f1', ?_⟩⟩
    rw [hk, hrl]
    exact hO1
  refine ⟨_, rfl, vIf_f (by simp) (jnC_mk ?_)⟩
  obtain ⟨ba, hA⟩ : ∃ ba, A = some ⟨ba, 0, none⟩ := by
    obtain ⟨vs, hv, _⟩ := h
    rcases hv.at_ with ⟨_, h0, _⟩ | ⟨ba, _, hA, _⟩
    · omega
    · exact ⟨ba, hA⟩
  subst hA
  have hBa := (hO1.blt (k := ba) rfl)
  have hlec : n ≤ c := by obtain ⟨vs, hv, _⟩ := h; exact hv.le
  have hi1 : thereL (l.take (i0 + 1)) = l.take i0 := by rw [thereL_step g0, if_pos hd0, hk0]
  refine loop_rule (fun s u => Fr (fun k => blkOf (some (⟨ba, 0, none⟩ : Addr)) = some k) w u ∧ ∃ (j : Nat) (Q : List Tn), i0 + 1 ≤ j ∧ j ≤ n ∧ Q.length = n ∧ OT P u B (some ⟨ba, 0, none⟩) n c Q ∧ (thereL (l.take j)).length < j ∧ Q.take (thereL (l.take j)).length = thereL (l.take j) ∧ (∀ q, j ≤ q → Q[q]? = l[q]?) ∧
      s = ((some ⟨ba, 0, none⟩, n, c), (), (((thereL (l.take j)).length : Nat) : Int), (j : Int), ()))
    (fun s _ => (n - s.2.2.2.1).toNat) ?_ _ _ ⟨f1', i0 + 1, l, by omega, by omega, hrl, hO1, ?_, ?_, fun q _ => rfl, ?_⟩
  rotate_left
  · rw [hi1, List.length_take]; omega
  · rw [hi1, List.length_take, Nat.min_eq_left (by omega)]
  · rw [hi1, List.length_take, Nat.min_eq_left (by omega), ei i0 (by omega)]
  rintro s u C ⟨hf, j, Q, hj1, hjn, hQl, hO, hk, htk, hdp, rfl⟩ hC _
  generalize hkk : (thereL (l.take j)).length = k at hk htk
  refine vIf_mk (fun hlt => ?_) (fun hge => ?_)
  · have hlt2 : (j : Int) < (n : Int) := of_decide_eq_true hlt
    have gj : l[j]? = some (l[j]'(by omega)) := List.getElem?_eq_getElem (by omega)
    have hsn := thereL_step gj
    generalize l[j]'(by omega) = x at gj hsn
    have hmeas : ((n : Int) - IntKind.wrap .i64 ((j : Int) + 1)).toNat < ((n : Int) - (j : Int)).toNat := by rw [ei j (by omega)]; omega
    have gQ := (hdp j (Nat.le_refl _)).trans gj
    obtain ⟨vs, hv, ht⟩ := hO
    have hRT : RT (fun k => blkOf (some (⟨ba, 0, none⟩ : Addr)) ≠ some k ∧ P k) u (some ⟨ba, 0, none⟩) n Q := ⟨vs, hv.sl, ht⟩
    refine t_rd hRT gQ (fun b o cs hA hT hc => ⟨cs, hT.len, hc, var_mk z35 hT.len hT.one (fun b7 u1 g1 r7 => ⟨cs, hT.len, rec_all r7, (gcl_calls x cs u1 (hT.fr0 g1)).mono ?_⟩)⟩)
    rintro r u2 ⟨rfl, g2⟩
    have g12 := g1.trans1 g2
    have hf2 : Fr (fun k => blkOf (some (⟨ba, 0, none⟩ : Addr)) = some k) w u2 := hf.trans1 (g12.mono (fun _ _ h => h.elim))
    refine ⟨_, rfl, vIf_mk (fun hg => ?_) (fun hg => ?_)⟩
    · have hg : x.g = false := by simpa using hg
      rw [if_neg (by rw [hg]; decide)] at hsn
      refine ⟨cs, hT.len, rec_all (r7.fr g2 (fun h => h)), dr_mk (gd_mk (decide_eq_true (by show (0 : Int) ≤ (k : Int); omega)) (gd_mk (decide_eq_true (by show (k : Int) < (n : Int); omega)) (gd_mk (by rw [hT.len]; rfl) ?_)))⟩
      show st u2 ba (0 + ((k : Int)).toNat * 38) _ _
      rw [Int.toNat_natCast]
      refine row_put (A := some ⟨ba, 0, none⟩) (o' := k * 38) (g12.row hv (fun _ _ h => h)) (by omega) (by rw [hT.len]; omega) hT.one (fun u5 hr5 f5 => jnC_mk (hC _ _ ⟨hf2.trans1 f5, j + 1, Q.set k x, by omega, by omega, by simpa using hQl, ⟨_, hr5, ?_⟩, ?_, ?_, ?_, ?_⟩ hmeas))
      · have htx := (ht.set hT (k := k) (by omega)).fr g12 (fun _ _ h => h)
        exact htx.fr f5 (fun q hq h => hq.1 h)
      · rw [hsn, List.length_append, hkk]; simp; omega
      · rw [hsn, List.length_append, hkk]
        show (Q.set k x).take (k + 1) = _
        rw [List.take_add_one, List.getElem?_set_self (by omega), Option.toList_some, List.take_set_of_le (Nat.le_refl k), htk]
      · intro q hq
        rw [List.getElem?_set_ne (by omega)]
        exact hdp q (by omega)
      · rw [hsn, List.length_append, hkk, ei j (by omega)]
        show (_, _, IntKind.wrap .i64 ((k : Int) + 1), _, ()) = _
        rw [ei k (by omega)]; rfl
    · have hg : x.g = true := by simpa using hg
      rw [if_pos hg] at hsn
      refine jnC_mk (hC _ _ ⟨hf2, j + 1, Q, by omega, by omega, hQl, ⟨vs, g12.row hv (fun _ _ h => h), ht.fr g12 (fun _ _ h => h)⟩, by rw [hsn, hkk]; omega, by rw [hsn, hkk]; exact htk, fun q hq => hdp q (by omega), by rw [hsn, hkk, ei j (by omega)]⟩ hmeas)
  · have hge2 : ¬ (j : Int) < (n : Int) := of_decide_eq_false hge
    have hjn2 : j = n := by omega
    subst hjn2
    have hta : l.take j = l := List.take_of_length_le (by omega)
    rw [hta] at hkk htk
    dsimp only
    simp only [Int.toNat_natCast]
    obtain ⟨vs, hv, ht⟩ := hO
    refine gd_mk (decide_eq_true (by omega)) (gd_mk (decide_eq_true (by omega)) (vIf_f (by simp; omega) ?_))
    refine row_clearT hv (by omega) (fun u2 hr2 f2 => jnC_mk (fun _ => ?_))
    refine gd_mk (decide_eq_true (by show (0 : Int) ≤ (k : Int); omega)) (gd_mk (decide_eq_true (by show (k : Int) ≤ (c : Int); omega)) ⟨?_, hf.trans1 (f2.mono (fun q _ hq => by subst hq; rfl)), ?_⟩)
    · show Value.slice (slA (some ⟨ba, 0, none⟩) c 0 38) ((k : Int).toNat) c = _
      rw [Int.toNat_natCast, hkk]
      congr 1
      unfold slA
      split
      · rfl
      · simp [Addr.add]
    · rw [hkk]
      have h3 := (ht.take k).fr f2 (fun q hq h => hq.1 (by subst h; rfl))
      rw [htk] at h3
      exact ⟨_, hr2, h3⟩
theorem thereT_calls {X : Nat → Prop} (base tb : Nat) (R : Option Addr) (n c : Nat) (l : List Tn) (w : World) (h : Tab X w base tb R n c l) (hn : n ≤ 1000000000) (hb : Bd 4294967296 l) :
    Calls Try.prog 27 #[.pointer (some ⟨tb, 0, none⟩)] w fun e w' => Fr (fun _ => False) w w' ∧ ∃ A' c', e = .returned (.slice A' (thereL l).length c') ∧ OT (fun k => w.heap.size ≤ k) w' w.heap.size A' (thereL l).length c' (thereL l) := by
  refine (F27.of (some ⟨tb, 0, none⟩) w (Q := fun v w' => Fr (fun _ => False) w w' ∧ ∃ A' c', v = .slice A' (thereL l).length c' ∧ OT (fun k => w.heap.size ≤ k) w' w.heap.size A' (thereL l).length c' (thereL l)) ?_).mono (fun e w' ⟨v, he, hf, a, b, hv, h⟩ => ⟨hf, a, b, by rw [he, hv], h⟩)
  refine (rowT_calls base tb R n c l w h hn hb).mono ?_
  rintro e w2 ⟨f2, A2, c2, rfl, h2⟩
  refine ⟨_, _, _, rfl, (delT_calls w.heap.size A2 n c2 l w2 h2 hn).mono ?_⟩
  rintro e w3 ⟨rfl, f3, h3⟩
  exact ⟨_, _, _, rfl, f2.trans f3 (fun _ _ h => h) (fun k hk h' => by have := (h2.blt h').1; omega), A2, c2, rfl, h3⟩
theorem countT_calls {X : Nat → Prop} (base tb : Nat) (R : Option Addr) (n c : Nat) (l : List Tn) (w : World) (h : Tab X w base tb R n c l) (hn : n ≤ 1000000000) (hb : Bd 4294967296 l) :
    Calls Try.prog 11 #[.pointer (some ⟨tb, 0, none⟩)] w fun e w' => e = .returned (.int .i64 ((thereL l).length : Nat)) ∧ Fr (fun _ => False) w w' := by
  refine (F11.of (some ⟨tb, 0, none⟩) w (Q := fun v w' => v = .int .i64 ((thereL l).length : Nat) ∧ Fr (fun _ => False) w w') ?_).mono (fun e w' ⟨v, he, hv, h⟩ => ⟨by rw [he, hv], h⟩)
  refine (thereT_calls base tb R n c l w h hn hb).mono ?_
  rintro e w2 ⟨f2, A2, c2, rfl, h2⟩
  exact ⟨_, _, _, rfl, rfl, f2⟩
/-! ### rows of texts -/
def svs (l : List ByteArray) : List Value := l.map Value.string
theorem svs_len (l : List ByteArray) : (svs l).length = l.length := by simp [svs]
theorem svs_app (a b : List ByteArray) : svs (a ++ b) = svs a ++ svs b := by simp [svs]
theorem svs_one (l : List ByteArray) : ∀ v ∈ svs l, v.oneCell' = true := by
  intro v hv
  simp only [svs, List.mem_map] at hv
  obtain ⟨x, _, rfl⟩ := hv
  rfl
theorem svs_at {l : List ByteArray} {i : Nat} {x : ByteArray} (h : l[i]? = some x) : (svs l)[i]? = some (.string x) := by simp [svs, h]
theorem ss_n {w : World} {A : Option Addr} {n : Nat} {l : List ByteArray} (h : Sl w 1 A n (svs l)) : l.length = n := by
  have := h.1
  rw [svs_len] at this
  omega
theorem ss_rd {w : World} {A : Option Addr} {n : Nat} {l : List ByteArray} (h : Sl w 1 A n (svs l)) {i : Nat} (hi : i < n) {x : ByteArray} (hx : l[i]? = some x) {K : ByteArray → Prop} (hK : K x) :
    dr A fun b o => gd (decide (0 ≤ (i : Int))) (gd (decide ((i : Int) < ((n : Nat) : Int))) (ldS w b (o + ((i : Int)).toNat * 1) K)) := by
  obtain ⟨b, o, rfl, hc⟩ := h.2 (by omega)
  refine dr_mk (gd_mk (decide_eq_true (by omega)) (gd_mk (decide_eq_true (by omega)) ⟨x, ?_, hK⟩))
  rw [Int.toNat_natCast, Nat.mul_one]
  exact hc i _ (svs_at hx)
theorem push_s {w : World} {B : Nat} {A : Option Addr} {n c : Nat} {out : List ByteArray} {x : ByteArray} {K : Option Addr → Nat → Nat → World → Prop} (hr : Row w B 9 1 A n c (svs out)) (hB : B ≤ w.heap.size) (hn : n ≤ 1099511627776)
    (hK : ∀ A' c' w', Row w' B 9 1 A' (n + 1) c' (svs (out ++ [x])) → Fr (fun k => blkOf A = some k) w w' → K A' (n + 1) c' w') : nw w ([Value.string x] ++ []) 9 fun b w' => app w' 1 16 [Value.string (⟨#[]⟩ : ByteArray)] 9 A n c (.slice (some ⟨b, 0, none⟩) 1 1) K := by
  refine nw_mk ?_
  rw [List.append_nil]
  have f1 : Fr (fun _ => False) w (w.alloc (.cells [Value.string x].toArray 9)) := Fr.alloc _ _ _
  have r1 : Row (w.alloc (.cells [Value.string x].toArray 9)) 0 9 1 (some ⟨w.heap.size, 0, none⟩) 1 1 (svs [x]) := Row.new (Nat.zero_le _) rfl
  have hs : (w.alloc (.cells [Value.string x].toArray 9)).heap.size = w.heap.size + 1 := alloc_size _ _
  generalize w.alloc (.cells [Value.string x].toArray 9) = w1 at f1 r1 hs ⊢
  refine app_row (f1.row hr (fun _ _ h => h)) r1.sl.src (svs_one [x]) rfl (by omega) (by omega) (by omega) (fun A' c' w' hr' f' => hK A' c' w' (by rw [svs_app]; exact hr') ?_)
  exact f1.trans f' (fun _ _ h => h.elim) (fun _ _ h => h)
def listF (after : ByteArray) (n : Int) (l : List Tn) : List ByteArray := (namesB after l).take n.toNat
theorem namesB_len (after : ByteArray) (l : List Tn) : (namesB after l).length ≤ l.length := by
  unfold namesB
  rw [List.length_map]; exact List.length_filter_le _ _
theorem listF_step {after : ByteArray} {n : Int} {l : List Tn} {i : Nat} {e : Tn} (h : l[i]? = some e) : listF after n (l.take (i + 1)) = if cmpN after e.nm < 0 ∧ ((listF after n (l.take i)).length : Int) < n then listF after n (l.take i) ++ [e.nm] else listF after n (l.take i) := by
  unfold listF
  rw [namesB_step h]
  by_cases h1 : cmpN after e.nm < 0
  · rw [if_pos h1, take_push]
    by_cases h2 : ((namesB after (l.take i)).take n.toNat).length < n.toNat
    · rw [if_pos h2, if_pos ⟨h1, by omega⟩]
    · rw [if_neg h2, if_neg (fun h => h2 (by have := h.2; omega))]
  · rw [if_neg h1, if_neg (fun h => h1 h.1)]
theorem gtr_cmp (a b : ByteArray) : (!((Op.bytesLess a.toList b.toList) || (a.toList == b.toList))) = decide (cmpN b a < 0) := by
  rw [nlt, neq, Bool.eq_iff_iff]
  have h1 := cmpN_anti a b
  have h2 := cmpN_zero a b
  by_cases h : a = b
  · subst h; simp [cmpN_self]
  · have : cmpN a b ≠ 0 := fun h' => h (h2.1 h')
    simp only [h, decide_false, Bool.or_false, Bool.not_eq_true', decide_eq_false_iff_not, decide_eq_true_iff]
    omega
set_option maxRecDepth 10000 in
theorem listT_calls {X : Nat → Prop} (base tb : Nat) (R : Option Addr) (n c : Nat) (l : List Tn) (after : ByteArray) (m : Int) (w : World) (h : Tab X w base tb R n c l) (hn : n ≤ 1000000000) (hb : Bd 4294967296 l) :
    Calls Try.prog 7 #[.pointer (some ⟨tb, 0, none⟩), .string after, .int .i64 m] w fun e w' => Fr (fun _ => False) w w' ∧ ∃ A' c', e = .returned (.slice A' (listL after m l).length c') ∧ Row w' w.heap.size 9 1 A' (listL after m l).length c' (svs (listL after m l)) := by
  refine (F7.of (some ⟨tb, 0, none⟩) after m w (Q := fun v w' => Fr (fun _ => False) w w' ∧ ∃ A' c', v = .slice A' (listL after m l).length c' ∧ Row w' w.heap.size 9 1 A' (listL after m l).length c' (svs (listL after m l))) ?_).mono (fun e w' ⟨v, he, hf, a, b, hv, h⟩ => ⟨hf, a, b, by rw [he, hv], h⟩)
  have hl := h.len
  refine (thereT_calls base tb R n c l w h hn hb).mono ?_
  rintro e w2 ⟨f2, A2, c2, rfl, h2⟩
  have htl := thereL_len l
  have hll : listL after m l = listF after m (thereL l) := rfl
  rw [hll]
  generalize thereL l = t at h2 htl ⊢
  generalize hN : t.length = N at h2 htl ⊢
  refine ⟨_, _, _, rfl, jnC_mk (loop_rule (fun s u => Fr (fun _ => False) w2 u ∧ ∃ (i : Nat) (A5 : Option Addr) (c5 : Nat), i ≤ N ∧ s = (after, m, (A5, (listF after m (t.take i)).length, c5), (A2, N, c2), (N : Int), (i : Int), ()) ∧ Row u w2.heap.size 9 1 A5 (listF after m (t.take i)).length c5 (svs (listF after m (t.take i))))
    (fun s _ => (N - s.2.2.2.2.2.1).toNat) ?_ _ _ ⟨Fr.refl _ _, 0, none, 0, by omega, by simp [listF, namesB], by simp [listF, namesB, svs]; exact Row.nil _ _ _ _⟩)⟩
  rintro s u C ⟨hf, i, A5, c5, hi, rfl, hr⟩ hC _
  refine vIf_mk (fun hlt => ?_) (fun hge => ?_)
  · have hlt2 : (i : Int) < (N : Int) := of_decide_eq_true hlt
    have gi : t[i]? = some (t[i]'(by omega)) := List.getElem?_eq_getElem (by omega)
    generalize t[i]'(by omega) = x at gi
    have hstep := listF_step (after := after) (n := m) gi
    have hfl : (listF after m (t.take i)).length ≤ i := by
      unfold listF
      rw [List.length_take]
      have := namesB_len after (t.take i)
      rw [List.length_take] at this
      omega
    have hmeas : ((N : Int) - IntKind.wrap .i64 ((i : Int) + 1)).toNat < ((N : Int) - (i : Int)).toNat := by rw [ei i (by omega)]; omega
    refine t_rd (h2.fr0 hf).rt gi (fun b o cs hA hT hc => ⟨cs, hT.len, hc, var_mk z35 hT.len hT.one (fun b9 u1 g1 r9 => ⟨x.nm, c_nm hT (rec_all r9), ?_⟩)⟩)
    have hr1 := g1.row hr (fun _ _ h => h)
    have hf1 := hf.trans1 g1
    have fin : ∀ tk : Bool, tk = decide (cmpN after x.nm < 0 ∧ ((listF after m (t.take i)).length : Int) < m) → jnC (F7.k6 (fun v w' => Fr (fun _ => False) w w' ∧ ∃ A' c', v = .slice A' (listF after m t).length c' ∧ Row w' w.heap.size 9 1 A' (listF after m t).length c' (svs (listF after m t))) C) (after, m, (A5, (listF after m (t.take i)).length, c5), (b9, 0), (A2, N, c2), (N : Int), (i : Int), tk, ()) u1 := by
      intro tk htk
      refine jnC_mk (fun _ => vIf_mk (fun h1 => ⟨x.nm, c_nm hT (rec_all r9), ?_⟩) (fun h1 => ?_))
      · have h1 : tk = true := h1
        rw [h1] at htk
        rw [if_pos (of_decide_eq_true htk.symm)] at hstep
        have hlen : (listF after m (t.take i)).length + 1 = (listF after m (t.take (i + 1))).length := by rw [hstep]; simp
        refine push_s hr1 hf1.size (by show (listF after m (t.take i)).length ≤ _; omega) (fun A' c' w' hr' f' => jnC_mk (hC _ _ ⟨own_fr hf1 hr1 f', i + 1, A', c', by omega, by rw [ei i (by omega), ← hlen], by rw [← hlen, hstep]; exact hr'⟩ hmeas))
      · have h1 : tk = false := h1
        rw [h1] at htk
        rw [if_neg (of_decide_eq_false htk.symm)] at hstep
        exact jnC_mk (hC _ _ ⟨hf1, i + 1, A5, c5, by omega, by rw [ei i (by omega), hstep], by rw [hstep]; exact hr1⟩ hmeas)
    refine vIf_mk (fun h0 => fin _ ?_) (fun h0 => fin _ ?_)
    · rw [gtr_cmp] at h0
      have h0 := of_decide_eq_true h0
      exact decide_eq_decide.2 ⟨fun h => ⟨h0, h⟩, fun h => h.2⟩
    · rw [gtr_cmp] at h0
      have h0 := of_decide_eq_false h0
      rw [decide_eq_false (fun h => h0 h.1)]
  · have hge2 : ¬ (i : Int) < (N : Int) := of_decide_eq_false hge
    rw [List.take_of_length_le (by omega)] at hr ⊢
    exact ⟨f2.trans1 hf, A5, c5, rfl, row_low f2.size hr⟩
theorem digL_step {l : List Tn} {i : Nat} {e : Tn} (h : l[i]? = some e) : digL (l.take (i + 1)) = digL (l.take i) ++ [e.d] := by
  unfold digL
  rw [List.take_add_one, h, List.map_append]; rfl
theorem digL_len (l : List Tn) : (digL l).length = l.length := by simp [digL]
theorem z29 : Z29.length = 32 := rfl
set_option maxRecDepth 10000 in
theorem namesT_calls {X : Nat → Prop} (base tb : Nat) (R : Option Addr) (n c : Nat) (l : List Tn) (w : World) (h : Tab X w base tb R n c l) (hn : n ≤ 1000000000) (hb : Bd 4294967296 l) :
    Calls Try.prog 22 #[.pointer (some ⟨tb, 0, none⟩)] w fun e w' => Fr (fun _ => False) w w' ∧ ∃ A' c', e = .returned (.slice A' (thereL l).length c') ∧ Row w' w.heap.size 29 32 A' (thereL l).length c' (dcs (digL (thereL l))) := by
  refine (F22.of (some ⟨tb, 0, none⟩) w (Q := fun v w' => Fr (fun _ => False) w w' ∧ ∃ A' c', v = .slice A' (thereL l).length c' ∧ Row w' w.heap.size 29 32 A' (thereL l).length c' (dcs (digL (thereL l)))) ?_).mono (fun e w' ⟨v, he, hf, a, b, hv, h⟩ => ⟨hf, a, b, by rw [he, hv], h⟩)
  have hl := h.len
  refine (thereT_calls base tb R n c l w h hn hb).mono ?_
  rintro e w2 ⟨f2, A2, c2, rfl, h2⟩
  have htl := thereL_len l
  generalize thereL l = t at h2 htl ⊢
  generalize hN : t.length = N at h2 htl ⊢
  refine ⟨_, _, _, rfl, jnC_mk (loop_rule (fun s u => Fr (fun _ => False) w2 u ∧ ∃ (i : Nat) (A5 : Option Addr) (c5 : Nat), i ≤ N ∧ s = ((A5, i, c5), (A2, N, c2), (N : Int), (i : Int), ()) ∧ Row u w2.heap.size 29 32 A5 i c5 (dcs (digL (t.take i))))
    (fun s _ => (N - s.2.2.2.1).toNat) ?_ _ _ ⟨Fr.refl _ _, 0, none, 0, by omega, rfl, Row.nil _ _ _ _⟩)⟩
  rintro s u C ⟨hf, i, A5, c5, hi, rfl, hr⟩ hC _
  refine vIf_mk (fun hlt => ?_) (fun hge => ?_)
  · have hlt2 : (i : Int) < (N : Int) := of_decide_eq_true hlt
    have gi : t[i]? = some (t[i]'(by omega)) := List.getElem?_eq_getElem (by omega)
    generalize t[i]'(by omega) = x at gi
    refine t_rd (h2.fr0 hf).rt gi (fun b o cs hA hT hc => ⟨cs, hT.len, hc, var_mk z35 hT.len hT.one (fun b9 u1 g1 r9 => ⟨x.d.map bv, bvl hT.dl, c_dig hT (rec_all r9), gd_mk (len1 hT.dl) ?_⟩)⟩)
    have hr1 := g1.row hr (fun _ _ h => h)
    have hf1 := hf.trans1 g1
    refine push_dig hr1 hT.dl hf1.size (by show i ≤ _; omega) (fun A' c' w' hr' f' => jnC_mk (hC _ _ ⟨own_fr hf1 hr1 f', i + 1, A', c', by omega, by rw [ei i (by omega)], by rw [digL_step gi]; exact hr'⟩ ?_))
    show ((N : Int) - IntKind.wrap .i64 ((i : Int) + 1)).toNat < ((N : Int) - (i : Int)).toNat
    rw [ei i (by omega)]; omega
  · have hge2 : ¬ (i : Int) < (N : Int) := of_decide_eq_false hge
    rw [List.take_of_length_le (by omega)] at hr
    have : i = N := by omega
    subst this
    exact ⟨f2.trans1 hf, A5, c5, rfl, row_low f2.size hr⟩
end Go.Proofs.Ytklanoocjlpemaa
