/- chapter 21: pages -/
import Derived.Test.YtklanoocjlpemaaHM
namespace Go.Proofs.Ytklanoocjlpemaa
open Go.GV Go.RowKit Go.Lib
set_option linter.unusedVariables false
set_option linter.unusedSimpArgs false
def nil0 : ByteArray := ⟨#[]⟩
theorem nil_lt {x : ByteArray} (h : x ≠ nil0) : cmpN nil0 x < 0 := by
  have h1 : x.data.toList ≠ [] := fun h' => h (ba_ext h')
  show compareBytes [] x.data.toList < 0
  cases hx : x.data.toList with
  | nil => exact absurd hx h1
  | cons a l => simp [compareBytes]
def aft (L : List ByteArray) (k : Nat) : ByteArray := if k = 0 then nil0 else (L[k - 1]?).getD nil0
theorem page_drop {t : List Tn} (ha : AscT t) (k : Nat) (hk : k ≤ (namesB nil0 t).length) : namesB (aft (namesB nil0 t) k) t = (namesB nil0 t).drop k := by
  by_cases h0 : k = 0
  · subst h0; simp [aft]
  · unfold aft
    rw [if_neg h0]
    generalize hs : t.filter (fun e => decide (cmpN nil0 e.nm < 0)) = s
    have hL : namesB nil0 t = s.map (·.nm) := by unfold namesB; rw [hs]
    rw [hL] at hk ⊢
    rw [List.length_map] at hk
    have gi : s[k - 1]? = some (s[k - 1]'(by omega)) := List.getElem?_eq_getElem (by omega)
    generalize s[k - 1]'(by omega) = a at gi
    rw [List.getElem?_map, gi]
    simp only [Option.map_some, Option.getD_some]
    have hsa : AscT s := by rw [← hs]; exact ha.sublist List.filter_sublist
    have ham : a ∈ s := List.mem_of_getElem? gi
    have ha0 : cmpN nil0 a.nm < 0 := by
      rw [← hs] at ham
      exact of_decide_eq_true (List.mem_filter.1 ham).2
    have e1 : namesB a.nm t = (s.filter (fun e => decide (cmpN a.nm e.nm < 0))).map (·.nm) := by
      unfold namesB
      rw [← hs, List.filter_filter]
      congr 1
      apply List.filter_congr
      intro x _
      by_cases hx : cmpN a.nm x.nm < 0
      · have := cmpN_trans ha0 hx
        simp [hx, this]
      · simp [hx]
    have e2 : s.filter (fun e => decide (cmpN a.nm e.nm < 0)) = s.drop k := by
      have hsp := at_split gi
      rw [show k - 1 + 1 = k by omega] at hsp
      have hlow : (s.take (k - 1)).filter (fun e => decide (cmpN a.nm e.nm < 0)) = [] := by
        rw [List.filter_eq_nil_iff]
        intro x hx
        obtain ⟨j, hj, hx⟩ := mem_take_lt hx
        have h1 := asc_lt hsa hx gi hj
        have h2 := cmpN_anti a.nm x.nm
        simp; omega
      have hhi : (s.drop k).filter (fun e => decide (cmpN a.nm e.nm < 0)) = s.drop k := by
        rw [List.filter_eq_self]
        intro x hx
        obtain ⟨j, hj, hx⟩ := mem_drop_ge hx
        exact decide_eq_true (asc_lt hsa gi hx (by omega))
      have := congrArg (List.filter (fun e => decide (cmpN a.nm e.nm < 0))) hsp
      rw [List.filter_append, hlow, List.nil_append, List.filter_cons_of_neg (by simp [cmpN_self]), hhi] at this
      exact this
    rw [e1, e2, List.map_drop]
theorem getR_uniq {nm : ByteArray} {l : List Tn} (ha : AscT l) {x : Tn} (hx : x ∈ l) (hn : x.nm = nm) : getR nm l = (x, true) := by
  obtain ⟨i, hi⟩ := List.mem_iff_getElem?.1 hx
  refine getR_take hi (fun y hy he => ?_) hn
  obtain ⟨j, hj, hy⟩ := mem_take_lt hy
  have := asc_lt ha hy hi hj
  rw [he, hn, cmpN_self] at this
  omega
theorem names_all {l : List Tn} (h : ∀ x ∈ thereL l, x.nm ≠ nil0) : namesB nil0 (thereL l) = (thereL l).map (·.nm) := by
  unfold namesB
  congr 1
  rw [List.filter_eq_self]
  exact fun x hx => decide_eq_true (nil_lt (h x hx))
theorem asc_there {l : List Tn} (h : AscT l) : AscT (thereL l) := h.sublist List.filter_sublist
set_option maxHeartbeats 2000000 in
set_option maxRecDepth 100000 in
theorem pages_law (A : Option Addr) (n c : Nat) (l0 : List Tn) (m : Int) (w : World) (h0 : RT (fun _ => True) w A n l0) (hn : n ≤ 1048576) (hb0 : Bd 1048576 l0) :
    Calls Try.prog 3 #[.slice A n c, .int .i64 m] w fun r w' => r = .returned (.bool true) ∧ Fr (fun _ => False) w w' := by
  refine (F3.of A n c m w (Q := fun v w' => v = .bool true ∧ Fr (fun _ => False) w w') ?_).mono (fun e w' ⟨v, he, hv, h⟩ => ⟨by rw [he, hv], h⟩)
  have hl0 := h0.len
  refine (newT_calls (X := fun _ => True) A n c l0 w h0 (by omega) (fun e he => by have := hb0 e he; omega) (fun _ _ => trivial)).mono ?_
  rintro r w2 ⟨f2, tb, R, n', c', rfl, hT⟩
  have hall := newT_all l0
  have ha : AscT (newT l0) := by rw [← hall]; exact newT_asc _ _
  have hlen : (newT l0).length ≤ n := by rw [← hall, ← hl0]; exact newT_len l0 l0.length
  have hb : Bd 4294967296 (newT l0) := fun e he => by rw [← hall] at he; have := newT_bd hb0 _ e he; omega
  generalize newT l0 = l at hT ha hlen hb hall
  have hTl := hT.len
  have tl := thereL_len l
  have lives : ∀ {z : World}, Fr (fun _ => False) w2 z → Calls Try.prog 8 #[] z fun e w' => ∃ t : Bool, e = .returned (.bool t) ∧ (Value.bool t = .bool true ∧ Fr (fun _ => False) w w') := by
    intro z fz
    refine (lives_calls z).mono ?_
    rintro r v ⟨rfl, fv⟩
    exact ⟨_, rfl, rfl, (f2.trans1 fz).trans1 fv⟩
  refine ⟨_, rfl, vIf_mk (fun hm => ?_) (fun hm => ?_)⟩
  · have hm : m < 1 := of_decide_eq_true hm
    refine (listT_calls w.heap.size tb R n' c' l nil0 m w2 hT (by omega) hb).mono ?_
    rintro r w3 ⟨f3, A3, c3, rfl, h3⟩
    have he : listL nil0 m l = [] := by
      unfold listL
      rw [show m.toNat = 0 by omega, List.take_zero]
    rw [he] at h3 ⊢
    exact ⟨_, _, _, rfl, vIf_t rfl (lives f3)⟩
  have hm : ¬ m < 1 := of_decide_eq_false hm
  generalize hL : namesB nil0 (thereL l) = L
  have hLl : L.length ≤ n := by rw [← hL]; have := namesB_len nil0 (thereL l); omega
  have hpage : ∀ k, k ≤ L.length → listL (aft L k) m l = (L.drop k).take m.toNat := fun k hk => by
    unfold listL
    rw [← hL] at hk ⊢
    rw [page_drop (asc_there ha) k hk]
  refine jnC_mk (loop_rule (fun s u => Fr (fun _ => False) w2 u ∧ ∃ (i k : Nat) (A6 : Option Addr) (c6 : Nat), i ≤ n + 1 ∧ k ≤ L.length ∧ (i ≤ k ∨ k = L.length) ∧ s = ((A, n, c), m, some ⟨tb, 0, none⟩, (A6, k, c6), aft L k, (i : Int), ()) ∧ Row u w2.heap.size 9 1 A6 k c6 (svs (L.take k)))
    (fun s _ => (n + 1 - s.2.2.2.2.2.1).toNat) ?_ _ _ ⟨Fr.refl _ _, 0, 0, none, 0, by omega, by omega, .inl (by omega), rfl, Row.nil _ _ _ _⟩)
  rintro s u C ⟨hf, i, k, A6, c6, hi, hk, hik, rfl, hr⟩ hC _
  refine vIf_mk (fun hlt => ?_) (fun hge => ?_)
  · have hlt2 : (i : Int) ≤ (n : Int) := of_decide_eq_true hlt
    have hmeas : ((n : Int) + 1 - IntKind.wrap .i64 ((i : Int) + 1)).toNat < ((n : Int) + 1 - (i : Int)).toNat := by rw [ei i (by omega)]; omega
    refine (listT_calls w.heap.size tb R n' c' l (aft L k) m u (hT.fr0 hf) (by omega) hb).mono ?_
    rintro r u2 ⟨g2, A14, c16, rfl, p2⟩
    rw [hpage k hk] at p2 ⊢
    generalize hp : (L.drop k).take m.toNat = pg at p2 ⊢
    have hpl : pg.length = min m.toNat (L.length - k) := by rw [← hp, List.length_take, List.length_drop]
    have hget : ∀ j, j < m.toNat → pg[j]? = L[k + j]? := fun j hj => by rw [← hp, List.getElem?_take, if_pos hj, List.getElem?_drop]
    have hr2 := g2.row hr (fun _ _ h => h)
    refine ⟨_, _, _, rfl, vIf_f (decide_eq_false (by show ¬ ((pg.length : Nat) : Int) > m; omega)) ?_⟩
    refine app_row hr2 p2.sl.src (svs_one _) rfl (by show (k + pg.length) * 16 ≤ _; omega) (by show k + pg.length ≤ _; omega) (by have := hf.size; have := g2.size; omega) (fun A7 c7 u3 hr3 g3 => ?_)
    have hs := hf.size
    have g23 : Fr (fun _ => False) w2 u3 := own_fr (hf.trans1 g2) hr2 g3
    have htk : L.take k ++ pg = L.take (k + pg.length) := by
      rw [List.take_add, ← hp, List.length_take, List.length_drop]
      congr 1
      by_cases hc : m.toNat ≤ L.length - k
      · rw [Nat.min_eq_left hc]
      · rw [Nat.min_eq_right (by omega), List.take_of_length_le (by rw [List.length_drop]; omega), List.take_of_length_le (by rw [List.length_drop]; omega)]
    rw [← svs_app, htk] at hr3
    have p3 := g3.row p2 (fun q hq h' => by have := (p2.blt hq).1; have := (hr.blt h').2; omega)
    have next : ∀ a : ByteArray, a = aft L (k + pg.length) → jnC C ((A, n, c), m, some ⟨tb, 0, none⟩, (A7, k + pg.length, c7), a, IntKind.wrap .i64 ((i : Int) + 1), ()) u3 := by
      intro a hae
      refine jnC_mk (hC _ _ ⟨g23, i + 1, k + pg.length, A7, c7, by omega, by omega, ?_, by rw [ei i (by omega), hae], hr3⟩ hmeas)
      omega
    refine vIf_mk (fun h1 => ?_) (fun h1 => next _ ?_)
    · have h1 : (pg.length : Int) > 0 := of_decide_eq_true h1
      have e1 : IntKind.wrap .i64 (((pg.length : Nat) : Int) - 1) = ((pg.length - 1 : Nat) : Int) := by rw [i64_id (by omega) (by omega)]; omega
      have gp : pg[pg.length - 1]? = some (pg[pg.length - 1]'(by omega)) := List.getElem?_eq_getElem (by omega)
      generalize pg[pg.length - 1]'(by omega) = x at gp
      rw [e1]
      refine ss_rd p3.sl (by omega) gp (next _ ?_)
      unfold aft
      rw [if_neg (by omega)]
      rw [hget _ (by omega)] at gp
      rw [show k + pg.length - 1 = k + (pg.length - 1) by omega, gp]; rfl
    · have h1 : ¬ (pg.length : Int) > 0 := of_decide_eq_false h1
      rw [show k + pg.length = k by omega]
  · have hge2 : ¬ (i : Int) ≤ (n : Int) := of_decide_eq_false hge
    have hkL : k = L.length := by omega
    subst hkL
    rw [List.take_length] at hr
    refine (getT_calls w.heap.size tb R n' c' l nil0 u (hT.fr0 hf) ha (by omega) hb).mono ?_
    rintro r u2 ⟨g2, cs2, rfl, p2⟩
    refine ⟨_, _, rfl, var_mk z35 p2.len p2.one (fun b28 u3 g3 r28 => ?_)⟩
    have g23 := hf.trans1 (g2.trans1 g3)
    have hr3 := (g2.trans1 g3).row hr (fun _ _ h => h)
    have fin : (∀ x ∈ thereL l, x.nm ≠ nil0) → jnC (F3.k18 (fun v w' => v = .bool true ∧ Fr (fun _ => False) w w')) ((A, n, c), some ⟨tb, 0, none⟩, (A6, L.length, c6), ()) u3 := by
      intro hno
      refine jnC_mk (fun _ => ?_)
      refine (listT_calls w.heap.size tb R n' c' l nil0 n u3 (hT.fr0 g23) (by omega) hb).mono ?_
      rintro r u4 ⟨g4, A37, c39, rfl, p4⟩
      have he : listL nil0 n l = L := by
        unfold listL
        rw [hL, Int.toNat_natCast, List.take_of_length_le hLl]
      rw [he] at p4 ⊢
      refine ⟨_, _, _, rfl, (texts_calls A6 _ c6 A37 _ c39 L u4 (g4.row hr3 (fun _ _ h => h)).sl p4.sl (by omega)).mono ?_⟩
      rintro r u5 ⟨rfl, g5⟩
      have g45 := g23.trans1 (g4.trans1 g5)
      refine ⟨_, rfl, vIf_t rfl ((countT_calls w.heap.size tb R n' c' l u5 (hT.fr0 g45) (by omega) hb).mono ?_)⟩
      rintro r u6 ⟨rfl, g6⟩
      have hcount : L.length = (thereL l).length := by rw [← hL, names_all hno, List.length_map]
      exact ⟨_, rfl, vIf_t (by rw [hcount]; simp) (lives (g45.trans1 g6))⟩
    refine vIf_mk (fun hok => ⟨(getR nil0 l).1.g, c_gone p2 (rec_all r28), vIf_mk (fun hg => lives g23) (fun hg => fin (fun x hx hxe => ?_))⟩) (fun hok => fin (fun x hx hxe => ?_))
    · have hx2 := List.mem_filter.1 hx
      have := getR_uniq ha hx2.1 hxe
      rw [this] at hg
      have hg : x.g = true := by simpa using hg
      have := hx2.2
      rw [hg] at this; cases this
    · have hx2 := List.mem_filter.1 hx
      have := getR_uniq ha hx2.1 hxe
      rw [this] at hok
      cases hok
end Go.Proofs.Ytklanoocjlpemaa
