/- chapter 18: the law of deeds -/
import Derived.Test.YtbcbpgfjmcmclaaHV
namespace Go.Proofs.Ytbcbpgfjmcmclaa
open Go.GV Go.RowKit Go.Slots Go.Lib
set_option linter.unusedVariables false
set_option linter.unusedSimpArgs false
theorem Tab.fr2 {D : Nat → Prop} {w w' : World} {B bt bs N : Nat} {S : SRow} (f : Fr D w w') (h : Tab w B bt bs N S) (h1 : ¬ D bt) (h2 : ¬ D bs) : Tab w' B bt bs N S :=
  ⟨h.at_.fr f h1 h2, h.inv, h.n8, h.load, h.big, h.bt_, h.bs_⟩
theorem Tab.lts {w : World} {B bt bs N : Nat} {S : SRow} (h : Tab w B bt bs N S) : bt < w.heap.size ∧ bs < w.heap.size := by
  obtain ⟨_, _, _, ht⟩ := h.at_
  exact ⟨ht.hd.lt, ht.sl.lt⟩
/-- the table and the document's, side by side -/
structure StT (u : World) (B bt br bs N : Nat) (S : SRow) (A : Option Addr) (c : Nat) (l : List Pr) : Prop where
  tab : Tab u B bt bs N S
  at_ : RecAt u br 37 [.slice A l.length c, .int .i64 N]
  row : Row u B 45 33 A l.length c (prs l)
  wp : WP l
  rel : Rel S l
  n1 : br ≠ bt
  n2 : br ≠ bs
  nA : ∀ q, blkOf A = some q → q ≠ bt ∧ q ≠ bs ∧ q ≠ br
  b : B ≤ br
theorem StT.fr0 {u u' : World} {B bt br bs N : Nat} {S : SRow} {A : Option Addr} {c : Nat} {l : List Pr} (f : Fr (fun _ => False) u u') (h : StT u B bt br bs N S A c l) : StT u' B bt br bs N S A c l :=
  ⟨h.tab.fr2 f (fun h => h) (fun h => h), h.at_.fr f (fun h => h), f.row h.row (fun _ _ h => h), h.wp, h.rel, h.n1, h.n2, h.nA, h.b⟩
theorem StT.recs {u : World} {B bt br bs N : Nat} {S : SRow} {A : Option Addr} {c : Nat} {l : List Pr} (h : StT u B bt br bs N S A c l) : cellsAt u br 0 [.slice A l.length c, .int .i64 N] := h.at_.cells (o := 0) (fun q v hq => by simpa using hq)
theorem StT.new {u u' u'' : World} {B bt br bs N N' : Nat} {S : SRow} {A A' : Option Addr} {c c' : Nat} {l' : List Pr} (hT : Tab u B bt bs N' S) (f : Fr (fun _ => False) u u') (hr : Row u' u.heap.size 45 33 A' l'.length c' (prs l')) (f' : Fr (fun j => j = br) u' u'') (hat : RecAt u'' br 37 [.slice A' l'.length c', .int .i64 N'])
    (hlt : br < u.heap.size) (hwp : WP l') (hrel : Rel S l') (n1 : br ≠ bt) (n2 : br ≠ bs) (hB : B ≤ br) : StT u'' B bt br bs N' S A' c' l' := by
  obtain ⟨h1, h2⟩ := hT.lts
  refine ⟨(hT.fr2 f (fun h => h) (fun h => h)).fr2 f' (fun h => n1 h.symm) (fun h => n2 h.symm), hat, row_low (by omega) (f'.row hr (fun q hq h' => by have := (hr.blt hq).1; omega)), hwp, hrel, n1, n2, fun q hq => ?_, hB⟩
  have := (hr.blt hq).1
  omega
set_option maxHeartbeats 2000000 in
theorem does_law (A : Option Addr) (n c : Nat) (l : List Ded) (w : World) (h : Sl w 34 A n (deds l)) (hw : WD l) (hn : n ≤ 2147483648) :
    Calls Try.prog 4 #[.slice A n c] w fun e w' => e = .returned (.bool true) ∧ Fr (fun _ => False) w w' := by
  refine (F4.of A n c w (Q := fun v w' => v = .bool true ∧ Fr (fun _ => False) w w') ?_).mono (fun e w' ⟨v, he, hv, h⟩ => ⟨by rw [he, hv], h⟩)
  have hrl := ded_len h hw
  refine (new_calls w).mono ?_
  rintro e w1 ⟨bt, bs, rfl, f1, hT1, s1⟩
  refine ⟨_, rfl, (rnew_calls w1).mono ?_⟩
  rintro e w2 ⟨f2, rfl⟩
  refine ⟨[.slice none 0 0, .int .i64 8], rfl, nw_mk (gd_mk rfl ?_)⟩
  have f3 : Fr (fun _ => False) w2 (w2.alloc (.cells [Value.slice none 0 0, Value.int .i64 0].toArray 37)) := Fr.alloc _ _ _
  have r3 : RecAt (w2.alloc (.cells [Value.slice none 0 0, Value.int .i64 0].toArray 37)) w2.heap.size 37 [Value.slice none 0 0, Value.int .i64 0] := RecAt.new w2 _ _
  generalize w2.alloc (.cells [Value.slice none 0 0, Value.int .i64 0].toArray 37) = w3 at f3 r3 ⊢
  have hT2 := hT1.fr2 f2 (fun h => h) (fun h => h)
  obtain ⟨hl1, hl2⟩ := hT2.lts
  have hT3 := hT2.fr2 f3 (fun h => h) (fun h => h)
  have s2 := f2.size
  generalize hbr : w2.heap.size = br at *
  refine r3.st_mk (o := 0) (by simp) (by intro v hv; simp at hv; rcases hv with rfl | rfl <;> rfl) (fun r4 f4 => jnC_mk ?_)
  rw [splice_full (by simp)] at r4
  have st0 : StT (stB w3 br 0 [.slice none 0 0, .int .i64 8]) w.heap.size bt br bs 8 (row0 8) none 0 [] :=
    ⟨hT3.fr2 f4 (fun h => by omega) (fun h => by omega), r4, Row.nil _ _ _ _, (fun x hx => by cases hx), rel0, by omega, by omega, (fun q hq => by cases hq), by omega⟩
  have ff : Fr (fun _ => False) w (stB w3 br 0 [.slice none 0 0, .int .i64 8]) := ((f1.trans1 f2).trans1 f3).trans f4 (fun _ _ h => h) (fun q hq h' => by omega)
  generalize stB w3 br 0 [.slice none 0 0, .int .i64 8] = w4 at st0 ff ⊢
  clear r4 f4 r3 f3 f2 f1 hT1 hT2 hT3
  generalize hB : w.heap.size = B at *
  -- behind each deed
  have after : ∀ (u : World) (C : ((Option Addr × Nat × Nat) × Option Addr × (Nat × Nat) × Int × Unit) → World → Prop) (i b13 bs N : Nat) (S : SRow) (A5 : Option Addr) (c5 : Nat) (l5 : List Pr) (x : Key), StT u B bt br bs N S A5 c5 l5 → RecAt u b13 28 (x.map bv) → x.length = 32 → l5.length ≤ 2147483649 →
      (∀ u', Fr (fun _ => False) u u' → StT u' B bt br bs N S A5 c5 l5 → C ((A, n, c), some ⟨bt, 0, none⟩, (br, 0), IntKind.wrap .i64 ((i : Int) + 1), ()) u') →
      F4.k16 (fun v w' => v = .bool true ∧ Fr (fun _ => False) w w') C ((A, n, c), some ⟨bt, 0, none⟩, (br, 0), (i : Int), (b13, 0), ()) u := by
    intro u C i b13 bs N S A5 c5 l5 x hst hd hx hll hC _
    have lx : (x.map bv).length = 32 := by simp [hx]
    refine ⟨_, lx, cellsB hd, (get_calls B bt bs N S x u hst.tab hx hst.rel.hint).mono ?_⟩
    rintro e u2 ⟨f2, hg⟩
    have he : e = .returned (.tuple #[.int .i64 ((lk l5 x).getD 0), .bool (lk l5 x).isSome]) := by
      rcases hg with ⟨y, h1, h2⟩ | ⟨h1, h2⟩
      · obtain ⟨z, hz, hl⟩ := (hst.rel.has x _).1 h1
        injection hz with _ hz
        rw [h2, hl, hz]; rfl
      · have hl : lk l5 x = none := by
          cases hl : lk l5 x with
          | none => rfl
          | some y => exact absurd ((hst.rel.has x _).2 ⟨y, rfl, hl⟩) (h1 _)
        rw [h2, hl]; rfl
    subst he
    have st2 := hst.fr0 f2
    refine ⟨_, _, rfl, _, rfl, st2.recs, _, lx, cellsB (hd.fr f2 (fun h => h)), (rget_calls A5 l5.length c5 l5 N x u2 st2.row.sl st2.wp hx (by omega)).mono ?_⟩
    rintro e u3 ⟨f3, rfl⟩
    have st3 := (st2.fr0 f3).fr0 (Fr.drew _ u3)
    have f13 := (f2.trans1 f3).trans1 (Fr.drew _ u3)
    refine ⟨_, _, rfl, vIf_f (by simp) (vIf_f (by simp) ?_)⟩
    generalize u3.drew = u4 at st3 f13 ⊢
    have hbl := st3.at_.lt
    refine ⟨_, _, _, st3.at_.cell rfl, (len_calls st3.tab).mono ?_⟩
    rintro e u5 ⟨rfl, rfl⟩
    refine ⟨_, rfl, kp_mk (Fr.refl (fun _ => False) _) hbl (fun h => h) (vIf_f (by rw [st3.rel.cnt]; simp) ⟨_, st3.at_.cell rfl, (slots_calls st3.tab).mono ?_⟩)⟩
    rintro e u6 ⟨rfl, rfl⟩
    exact ⟨_, rfl, kp_mk (Fr.refl (fun _ => False) _) hbl (fun h => h) (vIf_f (by simp) (jnC_mk (hC _ f13 st3)))⟩
  refine loop_rule (fun s u => Fr (fun _ => False) w u ∧ ∃ (i bs N : Nat) (S : SRow) (A5 : Option Addr) (c5 : Nat) (l5 : List Pr), i ≤ n ∧ s = ((A, n, c), some ⟨bt, 0, none⟩, (br, 0), (i : Int), ()) ∧ StT u B bt br bs N S A5 c5 l5 ∧ l5.length ≤ i ∧ 3 * N ≤ 24 + 8 * i)
    (fun s _ => (n - s.2.2.2.1).toNat) ?_ _ _ ⟨ff, 0, bs, 8, _, none, 0, [], by omega, rfl, st0, by simp, by omega⟩
  clear st0 ff hl1 hl2 s1
  rintro s u C ⟨hf, i, bs, N, S, A5, c5, l5, hi, rfl, hst, hll, hN3⟩ hC _
  refine vIf_mk (fun hlt => ?_) (fun hge => jnC_mk ?_)
  · have hlt2 : (i : Int) < (n : Int) := of_decide_eq_true hlt
    have gi : l[i]? = some (l[i]'(by omega)) := List.getElem?_eq_getElem (by omega)
    have li := hw.at gi
    obtain ⟨b, o, hA, hcell⟩ := sl_ded (hf.sl h (fun _ _ _ h => h)) hw (i := i) (by omega)
    subst hA
    generalize l[i]'(by omega) = x at gi li
    have lx : (x.2.1.map bv).length = 32 := by simp [li]
    have ci : ∀ {v : World}, Fr (fun _ => False) w v → cellsAt v b (o + ((i : Int)).toNat * 34) (dedC x) := fun fv => by
      rw [Int.toNat_natCast]
      obtain ⟨b', o', hA', hc'⟩ := sl_ded (fv.sl h (fun _ _ _ h => h)) hw (i := i) (by omega)
      cases hA'
      exact hc' i x gi
    have d0 : decide (0 ≤ (i : Int)) = true := decide_eq_true (by omega)
    have hmeas : ((n : Int) - IntKind.wrap .i64 ((i : Int) + 1)).toNat < ((n : Int) - (i : Int)).toNat := by rw [ei64 i (by omega)]; omega
    refine dr_mk (gd_mk d0 (gd_mk (decide_eq_true hlt2) ⟨_, lx, ded_key (ci hf), nw_mk (gd_mk (by rw [lx]; rfl) ?_)⟩))
    have hZ : Z28.length = 32 := by decide +kernel
    have g1 : Fr (fun _ => False) u (u.alloc (.cells Z28.toArray 28)) := Fr.alloc _ _ _
    have rz : RecAt (u.alloc (.cells Z28.toArray 28)) u.heap.size 28 Z28 := RecAt.new u _ _
    refine rz.st_mk (o := 0) (by rw [hZ, lx]; omega) (bvs_one _) (fun rd g2 => ?_)
    rw [splice_full (by rw [lx, hZ])] at rd
    have g12 : Fr (fun _ => False) u (stB (u.alloc (.cells Z28.toArray 28)) u.heap.size 0 (x.2.1.map bv)) := g1.trans g2 (fun _ _ h => h) (fun k hk h => by omega)
    generalize stB (u.alloc (.cells Z28.toArray 28)) u.heap.size 0 (x.2.1.map bv) = u1 at rd g12 ⊢
    have hd1 := rd.lt
    generalize u.heap.size = b13 at rd hd1 ⊢
    have st1 := hst.fr0 g12
    have hf1 := hf.trans1 g12
    have hBs : B ≤ u1.heap.size := by rw [← hB]; exact hf1.size
    refine dr_mk (gd_mk d0 (gd_mk (decide_eq_true hlt2) ⟨_, ded_kind (ci hf1), vIf_mk (fun hk0 => ?_) (fun hk0 => vIf_mk (fun hk1 => ?_) (fun hk1 => ?_))⟩))
    · -- a put
      have rd2 : RecAt u1.drew b13 28 (x.2.1.map bv) := rd
      have st2 := st1.fr0 (Fr.drew _ u1)
      have hf2 := hf1.trans1 (Fr.drew _ u1)
      have hBs2 : B ≤ u1.drew.heap.size := hBs
      have hd2 : b13 < u1.drew.heap.size := hd1
      generalize u1.drew = u2 at rd2 st2 hf2 hBs2 hd2 ⊢
      have hbr2 := st2.at_.lt
      refine ⟨_, lx, cellsB rd2, dr_mk (gd_mk d0 (gd_mk (decide_eq_true hlt2) ⟨_, ded_val li (ci hf2), (tput_calls' B bt bs N S x.2.1 x.2.2 u2 st2.tab li (by omega) hBs2).mono ?_⟩))⟩
      rintro e u3 ⟨rfl, f3, bs', N', S', hbs, ha⟩
      obtain ⟨hrel, hN', hlen, hgr⟩ := st2.rel.put ha
      have htb := st2.tab.bt_
      have hts := st2.tab.bs_
      have hlts := st2.tab.lts
      have hf3 : Fr (fun _ => False) w u3.drew := (hf2.trans f3 (fun _ _ h => h) (fun q hq h' => by omega)).trans1 (Fr.drew _ u3)
      have f3' := f3.trans1 (Fr.drew _ u3)
      have hT3 := ha.tab.fr2 (Fr.drew (fun _ => False) u3) (fun h => h) (fun h => h)
      have hn2 : br ≠ bs' := by
        rcases hbs with h' | h'
        · rw [h']; exact st2.n2
        · omega
      have hd13 : b13 ≠ bt ∧ b13 ≠ bs := by
        obtain ⟨_, hq⟩ := st2.tab.at_
        obtain ⟨e', cs', ht⟩ := hq
        refine ⟨fun he => ?_, fun he => ?_⟩
        · have := ht.hd.cell (o := 0) rfl
          subst he
          have h2 := rd2.get this
          rw [List.getElem?_map] at h2
          cases hx0 : x.2.1[0]? with
          | none => rw [hx0] at h2; cases h2
          | some y => rw [hx0] at h2; cases h2
        · have hx0 : 0 < N := by have := st2.tab.n8; omega
          subst he
          have hc := ht.tab.full hx0
          rw [Nat.zero_mul] at hc
          have hbad : ∀ t, cs'[0]? = some (Value.bool t) → False := fun t ht0 => by
            have h2 := rd2.get (ht.sl.cell ht0)
            rw [List.getElem?_map] at h2
            cases hx0 : x.2.1[0]? with
            | none => rw [hx0] at h2; cases h2
            | some y => rw [hx0] at h2; cases h2
          rcases hc with ⟨_, h2⟩ | ⟨_, h2⟩
          · exact hbad _ h2
          · exact hbad _ h2
      have rd3 := rd2.fr f3' (fun h' => by omega)
      have at3 := st2.at_.fr f3' (fun h' => by have := st2.n1; have := st2.n2; omega)
      have row3 := f3'.row st2.row (fun q hq h' => by have := st2.nA q hq; omega)
      refine ⟨rfl, ?_⟩
      generalize u3.drew = u4 at hf3 f3' hT3 rd3 at3 row3 ⊢
      refine ⟨_, rfl, at3.cells (o := 0) (fun q v hq => by simpa using hq), _, lx, cellsB rd3, dr_mk (gd_mk d0 (gd_mk (decide_eq_true hlt2) ⟨_, ded_val li (ci hf3), (rput_calls A5 l5.length c5 l5 N x.2.1 x.2.2 u4 row3.sl st2.wp li (by omega) (by omega)).mono ?_⟩))⟩
      rintro e u5 ⟨f5, A6, c6, rfl, hr6⟩
      have at5 := at3.fr f5 (fun h => h)
      refine ⟨_, rfl, gd_mk rfl ?_⟩
      refine at5.st_mk (o := 0) (by simp) (by intro v hv; simp at hv; rcases hv with rfl | rfl <;> rfl) (fun r6 f6 => ?_)
      rw [splice_full (by simp), ← hN'] at r6
      rw [← hN'] at f6 ⊢
      have st6 := StT.new (N := N) (A := A5) (c := c5) hT3 f5 hr6 f6 r6 at3.lt (st2.wp.put li _) hrel st2.n1 hn2 st2.b
      have hf6 := (hf3.trans1 f5).trans f6 (fun _ _ h => h) (fun q hq h' => by have := st2.b; omega)
      have rd6 := (rd3.fr f5 (fun h => h)).fr f6 (fun h' => by
        have h2 := rd3.get (at3.cell (o := 0) rfl |> fun q => h' ▸ q)
        rw [List.getElem?_map] at h2
        cases hx0 : x.2.1[0]? with
        | none => rw [hx0] at h2; cases h2
        | some y => rw [hx0] at h2; cases h2)
      refine jnC_mk (after _ C i b13 bs' N' S' A6 c6 _ x.2.1 st6 rd6 li (by omega) (fun u' fu st' => hC _ _ ⟨hf6.trans1 fu, i + 1, bs', N', S', A6, c6, _, by omega, by rw [ei64 i (by omega)], st', by omega, by omega⟩ hmeas))
    · -- a cut
      have hbr1 := st1.at_.lt
      have n13 : ∀ {v : World} {e1 : TypeId} {y : Value} {ys : List Value}, RecAt v b13 28 (x.2.1.map bv) → RecAt v br e1 (y :: ys) → (∀ a, y ≠ bv a) → b13 ≠ br := fun r1 r2 hy he => by
        subst he
        have h2 := r1.get (r2.cell (o := 0) rfl)
        rw [List.getElem?_map] at h2
        cases hx0 : x.2.1[0]? with
        | none => rw [hx0] at h2; cases h2
        | some z => rw [hx0] at h2; injection h2 with h2; exact hy z h2.symm
      refine ⟨_, rfl, st1.recs, _, lx, cellsB rd, (rget_calls A5 l5.length c5 l5 N x.2.1 u1 st1.row.sl st1.wp li (by omega)).mono ?_⟩
      rintro e u2 ⟨f2, rfl⟩
      have st2 := st1.fr0 f2
      have rd2 := rd.fr f2 (fun h => h)
      have hf2 := hf1.trans1 f2
      refine ⟨_, _, rfl, _, lx, cellsB rd2, (cut_calls' B bt bs N S x.2.1 u2 st2.tab li).mono ?_⟩
      rintro e u3 ⟨f3, S', hT3, hcs⟩
      have hcs2 : e = .returned (.bool (lk l5 x.2.1).isSome) ∧ Rel S' (cutL l5 x.2.1) := by
        rcases hcs with ⟨he, ⟨v0, hv0⟩, h1, h2⟩ | ⟨he, h1, h2⟩
        · obtain ⟨h3, h4⟩ := st2.rel.cut hv0 h1 h2
          exact ⟨by rw [he, h4], h3⟩
        · obtain ⟨h3, h4⟩ := st2.rel.same h1
          exact ⟨by rw [he, h4], by rw [h2]; exact h3⟩
      obtain ⟨rfl, hrel⟩ := hcs2
      have htb := st2.tab.bt_
      have hts := st2.tab.bs_
      have hd13 : b13 ≠ bt ∧ b13 ≠ bs := by
        obtain ⟨_, hq⟩ := st2.tab.at_
        obtain ⟨e', cs', ht⟩ := hq
        refine ⟨fun he => ?_, fun he => ?_⟩
        · have := ht.hd.cell (o := 0) rfl
          subst he
          have h2 := rd2.get this
          rw [List.getElem?_map] at h2
          cases hx0 : x.2.1[0]? with
          | none => rw [hx0] at h2; cases h2
          | some y => rw [hx0] at h2; cases h2
        · have hx0 : 0 < N := by have := st2.tab.n8; omega
          subst he
          have hc := ht.tab.full hx0
          rw [Nat.zero_mul] at hc
          have hbad : ∀ t, cs'[0]? = some (Value.bool t) → False := fun t ht0 => by
            have h2 := rd2.get (ht.sl.cell ht0)
            rw [List.getElem?_map] at h2
            cases hx0 : x.2.1[0]? with
            | none => rw [hx0] at h2; cases h2
            | some y => rw [hx0] at h2; cases h2
          rcases hc with ⟨_, h2⟩ | ⟨_, h2⟩
          · exact hbad _ h2
          · exact hbad _ h2
      have hf3 : Fr (fun _ => False) w u3 := hf2.trans f3 (fun _ _ h => h) (fun q hq h' => by omega)
      have rd3 := rd2.fr f3 (fun h' => by omega)
      have at3 := st2.at_.fr f3 (fun h' => by have := st2.n1; have := st2.n2; omega)
      have row3 := f3.row st2.row (fun q hq h' => by have := st2.nA q hq; omega)
      refine ⟨_, rfl, vIf_f (by simp) ⟨_, rfl, at3.cells (o := 0) (fun q v hq => by simpa using hq), _, lx, cellsB rd3, (rcut_calls A5 l5.length c5 l5 N x.2.1 u3 row3.sl st2.wp li (by omega)).mono ?_⟩⟩
      rintro e u5 ⟨f5, A6, c6, rfl, hr6⟩
      have at5 := at3.fr f5 (fun h => h)
      have hcl := cutL_len l5 x.2.1
      refine ⟨_, rfl, gd_mk rfl ?_⟩
      refine at5.st_mk (o := 0) (by simp) (by intro v hv; simp at hv; rcases hv with rfl | rfl <;> rfl) (fun r6 f6 => ?_)
      rw [splice_full (by simp)] at r6
      have st6 := StT.new (N := N) (A := A5) (c := c5) hT3 f5 hr6 f6 r6 at3.lt (cutL_WP st2.wp) hrel st2.n1 st2.n2 st2.b
      have hf6 := (hf3.trans1 f5).trans f6 (fun _ _ h => h) (fun q hq h' => by have := st2.b; omega)
      have rd6 := (rd3.fr f5 (fun h => h)).fr f6 (n13 rd3 at3 (fun a h => by cases h))
      refine jnC_mk (after _ C i b13 bs N S' A6 c6 _ x.2.1 st6 rd6 li (by omega) (fun u' fu st' => hC _ _ ⟨hf6.trans1 fu, i + 1, bs, N, S', A6, c6, _, by omega, by rw [ei64 i (by omega)], st', by omega, by omega⟩ hmeas))
    · refine jnC_mk (after _ C i b13 bs N S A5 c5 _ x.2.1 st1 rd li (by omega) (fun u' fu st' => hC _ _ ⟨hf1.trans1 fu, i + 1, bs, N, S, A5, c5, _, by omega, by rw [ei64 i (by omega)], st', by omega, by omega⟩ hmeas))
  · -- behind the deeds
    clear hC after
    refine loop_rule (fun s u => Fr (fun _ => False) w u ∧ StT u B bt br bs N S A5 c5 l5 ∧ ∃ (j : Nat), j ≤ l5.length ∧ s = (some ⟨bt, 0, none⟩, (br, 0), (j : Int), ()))
      (fun s _ => (l5.length - s.2.2.1).toNat) ?_ _ _ ⟨hf, hst, 0, by omega, rfl⟩
    clear hf hst
    rintro s u C ⟨hf, hst, j, hj, rfl⟩ hC _
    refine ⟨_, _, _, hst.at_.cell rfl, vIf_mk (fun hlt => ?_) (fun hge => ?_)⟩
    · have hlt2 : (j : Int) < (l5.length : Int) := of_decide_eq_true hlt
      have gj : l5[j]? = some (l5[j]'(by omega)) := List.getElem?_eq_getElem (by omega)
      have lj := hst.wp.at gj
      obtain ⟨b, o, hA, hcell⟩ := sl_pr hst.row.sl hst.wp (i := j) (by omega)
      subst hA
      have hxl := List.mem_of_getElem? gj
      generalize l5[j]'(by omega) = x at gj lj hxl
      have lx : (x.1.map bv).length = 32 := by simp [lj]
      have cj : cellsAt u b (o + ((j : Int)).toNat * 33) (prC x) := by rw [Int.toNat_natCast]; exact hcell j x gj
      have d0 : decide (0 ≤ (j : Int)) = true := decide_eq_true (by omega)
      have hmeas : ((l5.length : Int) - IntKind.wrap .i64 ((j : Int) + 1)).toNat < ((l5.length : Int) - (j : Int)).toNat := by rw [ei64 j (by omega)]; omega
      refine ⟨_, _, _, hst.at_.cell rfl, dr_mk (gd_mk d0 (gd_mk (decide_eq_true hlt2) ⟨_, lx, pr_key cj, (get_calls B bt bs N S x.1 u hst.tab lj hst.rel.hint).mono ?_⟩))⟩
      rintro e u2 ⟨f2, hg⟩
      have hlk := lk_of_mem hst.rel.dst hxl
      have he : e = .returned (.tuple #[.int .i64 x.2, .bool true]) := by
        rcases hg with ⟨y, h1, h2⟩ | ⟨h1, h2⟩
        · obtain ⟨z, hz, hl⟩ := (hst.rel.has x.1 _).1 h1
          injection hz with _ hz
          rw [hlk] at hl
          injection hl with hl
          rw [h2, hz, hl]
        · exact absurd ((hst.rel.has x.1 _).2 ⟨_, rfl, hlk⟩) (h1 _)
      subst he
      have st2 := hst.fr0 f2
      refine ⟨_, _, rfl, vIf_f rfl ⟨_, _, _, st2.at_.cell rfl, dr_mk (gd_mk d0 (gd_mk (decide_eq_true hlt2) ⟨_, pr_val lj (f2.cells cj (fun h => h)), vIf_f (by simp) (jnC_mk (hC _ _ ⟨hf.trans1 f2, st2, j + 1, by omega, ?_⟩ hmeas))⟩))⟩⟩
      show (_, _, IntKind.wrap .i64 ((j : Int) + 1), ()) = _
      rw [ei64 j (by omega)]
    · have st1 := hst.fr0 (Fr.drew _ u)
      have hf1 := hf.trans1 (Fr.drew _ u)
      generalize u.drew = u1 at st1 hf1 ⊢
      have hbl := st1.at_.lt
      refine ⟨_, rfl, st1.recs, (trow_calls B bt bs N S u1 st1.tab (by omega)).mono ?_⟩
      rintro e u2 ⟨f2, A1, c1, m1, rfl, hr1, hw1, ha1, hl1, hm1⟩
      have st2 := st1.fr0 f2
      refine ⟨_, _, _, rfl, kp_mk f2 hbl (fun h => h) ((rrowT_calls A5 l5.length c5 l5 N u2 st2.row.sl st2.wp (by omega)).mono ?_)⟩
      rintro e u3 ⟨f3, A2, c2, m2, rfl, hr2, hw2, ha2, hl2, hm2⟩
      have hmm : m1 = m2 := ha1.unique ha2 (fun d => by
        rw [hm1, hm2]
        constructor
        · rintro ⟨v, hv⟩
          obtain ⟨y, _, hy⟩ := (st2.rel.has d v).1 hv
          exact List.mem_map.2 ⟨_, lk_mem hy, rfl⟩
        · intro hd
          obtain ⟨x, hx, rfl⟩ := List.mem_map.1 hd
          exact ⟨_, (st2.rel.has x.1 _).2 ⟨_, rfl, lk_of_mem st2.rel.dst hx⟩⟩)
      subst hmm
      refine ⟨_, _, _, rfl, (same_dig A1 m1.length c1 m1 A2 m1.length c2 m1 u3 ((f3.row hr1 (fun _ _ h => h)).sl) hw1 hr2.sl hw2 (by omega)).mono ?_⟩
      rintro e u4 ⟨rfl, f4⟩
      rw [decide_eq_true (rfl : m1 = m1)]
      refine ⟨_, rfl, vIf_t rfl ((lives_calls u4).mono ?_)⟩
      rintro e u5 ⟨rfl, f5⟩
      exact ⟨_, rfl, rfl, (((hf1.trans1 f2).trans1 f3).trans1 f4).trans1 f5⟩
end Go.Proofs.Ytbcbpgfjmcmclaa
