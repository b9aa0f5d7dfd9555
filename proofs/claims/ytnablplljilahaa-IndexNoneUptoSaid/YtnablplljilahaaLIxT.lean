/- an index: its table; fresh, New, Get, Apply -/
import Derived.Test.YtnablplljilahaaLIxP
import Derived.Test.YtnablplljilahaaLEnR
import Derived.Test.YtnablplljilahaaLIntK
import Derived.Test.YtnablplljilahaaLSloG
namespace Go.Proofs.Ytnablplljilahaa
open Go.GV Go.RowKit Go.Lib
set_option linter.unusedVariables false
set_option linter.unusedSimpArgs false
/-- the blocks of an index -/
def DI (ib bt bs : Nat) : Nat → Prop := fun k => k = ib ∨ k = bt ∨ k = bs
theorem Slo.Tab.off {D : Nat → Prop} {w w' : World} {B bt bs N : Nat} {S : Slo.SRow} (h : Slo.Tab w B bt bs N S) (f : Fr D w w') (h1 : ¬ D bt) (h2 : ¬ D bs) : Slo.Tab w' B bt bs N S :=
  ⟨h.at_.fr f h1 h2, h.inv, h.n8, h.load, h.big, h.bt_, h.bs_⟩
theorem Slo.Tab.lts {w : World} {B bt bs N : Nat} {S : Slo.SRow} (h : Slo.Tab w B bt bs N S) : bt < w.heap.size ∧ bs < w.heap.size := by
  obtain ⟨_, _, _, ht⟩ := h.at_
  exact ⟨ht.hd.lt, ht.sl.lt⟩
structure Ix (X : Nat → Prop) (w : World) (base ib bt bs N p : Nat) (S : Slo.SRow) (l : List En) : Prop where
  ri : RecAt w ib 62 [.pointer (some ⟨bt, 0, none⟩)]
  tb : Slo.Tab w base bt bs N S
  ba : base ≤ ib
  nt : ib ≠ bt
  ns : ib ≠ bs
  has : ∀ k cs, Slo.Has S k cs → ∃ e ∈ l, e.d = k ∧ EnP (fun j => ¬ DI ib bt bs j ∧ X j) w cs e
  all : ∀ e ∈ l, ∃ cs, Slo.Has S e.d cs
  asc : AscE l
  cn : Slo.cntF S ≤ p
  nb : N ≤ 8 + 4 * p
section
variable {X : Nat → Prop} {w w' : World} {base ib bt bs N p : Nat} {S : Slo.SRow} {l : List En}
theorem Ix.off {D : Nat → Prop} (h : Ix X w base ib bt bs N p S l) (f : Fr D w w') (hD : ∀ k, DI ib bt bs k → ¬ D k) (hX : ∀ k, X k → ¬ D k) : Ix X w' base ib bt bs N p S l :=
  ⟨h.ri.fr f (hD _ (.inl rfl)), h.tb.off f (hD _ (.inr (.inl rfl))) (hD _ (.inr (.inr rfl))), h.ba, h.nt, h.ns, fun k cs hk => by
    obtain ⟨e, h1, h2, h3⟩ := h.has k cs hk
    exact ⟨e, h1, h2, h3.fr f (fun j hj => hX j hj.2)⟩, h.all, h.asc, h.cn, h.nb⟩
theorem Ix.fr0 (h : Ix X w base ib bt bs N p S l) (f : Fr (fun _ => False) w w') : Ix X w' base ib bt bs N p S l := h.off f (fun _ _ h => h) (fun _ _ h => h)
theorem Ix.monoX {X' : Nat → Prop} (h : Ix X w base ib bt bs N p S l) (hX : ∀ k, k < w.heap.size → X k → X' k) : Ix X' w base ib bt bs N p S l :=
  ⟨h.ri, h.tb, h.ba, h.nt, h.ns, fun k cs hk => by
    obtain ⟨e, h1, h2, h3⟩ := h.has k cs hk
    exact ⟨e, h1, h2, h3.mono (fun j hj hh => ⟨hh.1, hX j hj hh.2⟩)⟩, h.all, h.asc, h.cn, h.nb⟩
theorem Ix.monoP {p' : Nat} (h : Ix X w base ib bt bs N p S l) (hp : p ≤ p') : Ix X w base ib bt bs N p' S l :=
  ⟨h.ri, h.tb, h.ba, h.nt, h.ns, h.has, h.all, h.asc, Nat.le_trans h.cn hp, by have := h.nb; omega⟩
theorem Ix.lt (h : Ix X w base ib bt bs N p S l) {k : Nat} (hk : DI ib bt bs k) : base ≤ k ∧ k < w.heap.size := by
  rcases hk with rfl | rfl | rfl
  · exact ⟨h.ba, h.ri.lt⟩
  · exact ⟨h.tb.bt_, h.tb.lts.1⟩
  · exact ⟨h.tb.bs_, h.tb.lts.2⟩
theorem Ix.cs (h : Ix X w base ib bt bs N p S l) {e : En} (he : e ∈ l) : ∃ cs, Slo.Has S e.d cs ∧ EnP (fun j => ¬ DI ib bt bs j ∧ X j) w cs e := by
  obtain ⟨cs, hc⟩ := h.all e he
  obtain ⟨e', h1, h2, h3⟩ := h.has _ _ hc
  rw [asc_uniq h.asc h1 he h2] at h3
  exact ⟨cs, hc, h3⟩
theorem Ix.dl (h : Ix X w base ib bt bs N p S l) {e : En} (he : e ∈ l) : e.d.length = 32 := by
  obtain ⟨cs, _, h1⟩ := h.cs he
  exact h1.dl
end
theorem zEc : Z42 = zE.cs none 0 0 := rfl
theorem zEp {P : Nat → Prop} (w : World) : EnP P w (zE.cs none 0 0) zE := ⟨none, 0, 0, rfl, Sl.nil _ _ _, rfl, fun h => absurd rfl h⟩
/-- the table's Get -/
theorem tget_calls {X : Nat → Prop} (base ib bt bs N p : Nat) (S : Slo.SRow) (l : List En) (dg : List UInt8) (w : World) (h : Ix X w base ib bt bs N p S l) (hd : dg.length = 32) :
    Calls Try.prog 24 #[.pointer (some ⟨bt, 0, none⟩), ofL (dg.map bv)] w fun e w' => Fr (fun _ => False) w w' ∧ ∃ cs, e = .returned (.tuple #[ofL cs, .bool (getE dg l).2]) ∧ EnP (fun j => ¬ DI ib bt bs j ∧ X j) w' cs (getE dg l).1 := by
  refine (Slo.get_calls base bt bs N S dg w h.tb hd).mono ?_
  rintro r w' ⟨f, hr⟩
  refine ⟨f, ?_⟩
  rcases hr with ⟨cs, hh, rfl⟩ | ⟨hh, rfl⟩
  · obtain ⟨e, he, hed, hp⟩ := h.has _ _ hh
    rw [getE_of h.asc he hed]
    exact ⟨cs, rfl, hp.fr0 f⟩
  · have : getE dg l = (zE, false) := getE_none (fun x hx hxd => by
      obtain ⟨cs, hc⟩ := h.all x hx
      rw [hxd] at hc
      exact hh cs hc)
    rw [this]
    exact ⟨_, rfl, by rw [zEc]; exact zEp _⟩
/-- the table's Put -/
theorem tputX_calls {X : Nat → Prop} (base ib bt bs N p : Nat) (S : Slo.SRow) (l : List En) (e : En) (cs : List Value) (w : World) (h : Ix X w base ib bt bs N p S l) (he : EnP (fun j => ¬ DI ib bt bs j ∧ X j) w cs e) (hp : p ≤ 34359738368) (hB : base ≤ w.heap.size) :
    Calls Try.prog 21 #[.pointer (some ⟨bt, 0, none⟩), ofL (e.d.map bv), ofL cs] w fun r w' => r = .returned (.tuple #[]) ∧ Fr (fun j => j = bt ∨ j = bs) w w' ∧ ∃ bs' N' p' S', Ix X w' base ib bt bs' N' p' S' (setE e l) ∧ (bs' = bs ∨ w.heap.size ≤ bs') ∧ p' ≤ p + 1 ∧ ((∃ y ∈ l, y.d = e.d) → p' = p) := by
  refine (Slo.tput_calls' base bt bs N S e.d cs w h.tb he.dl he.len he.one (by have := h.nb; omega) hB).mono ?_
  rintro r w' ⟨rfl, f, bs', N', S', hbs, ha⟩
  have hib := h.ri.lt
  have hold : ∀ k c, Slo.Has S k c → k ≠ e.d → ∃ y ∈ setE e l, y.d = k ∧ EnP (fun j => ¬ DI ib bt bs' j ∧ X j) w' c y := fun k c hk hne => by
    obtain ⟨y, h1, h2, h3⟩ := h.has k c hk
    refine ⟨y, setE_keep e l y h1 (by rw [h2]; exact hne), h2, ?_⟩
    refine ((h3.mono (P' := fun j => (¬ DI ib bt bs j ∧ X j) ∧ j < w.heap.size) (fun j hj hh => ⟨hh, hj⟩)).fr f (fun j hj hD => hj.1.1 (.inr hD))).mono (fun j _ hj => ⟨fun hD => ?_, hj.1.2⟩)
    rcases hD with hD | hD | hD
    · exact hj.1.1 (.inl hD)
    · exact hj.1.1 (.inr (.inl hD))
    · rcases hbs with hb | hb
      · exact hj.1.1 (.inr (.inr (hD.trans hb)))
      · have := hj.2; omega
  have hnew : EnP (fun j => ¬ DI ib bt bs' j ∧ X j) w' cs e := by
    refine ((he.mono (P' := fun j => (¬ DI ib bt bs j ∧ X j) ∧ j < w.heap.size) (fun j hj hh => ⟨hh, hj⟩)).fr f (fun j hj hD => hj.1.1 (.inr hD))).mono (fun j _ hj => ⟨fun hD => ?_, hj.1.2⟩)
    rcases hD with hD | hD | hD
    · exact hj.1.1 (.inl hD)
    · exact hj.1.1 (.inr (.inl hD))
    · rcases hbs with hb | hb
      · exact hj.1.1 (.inr (.inr (hD.trans hb)))
      · have := hj.2; omega
  have mk : ∀ p', Slo.cntF S' ≤ p' → N' ≤ 8 + 4 * p' → Ix X w' base ib bt bs' N' p' S' (setE e l) := fun p' hc hn =>
    ⟨h.ri.fr f (fun hD => hD.elim h.nt h.ns), ha.tab, h.ba, h.nt, by
      rcases hbs with hb | hb
      · rw [hb]; exact h.ns
      · omega, fun k c hk => by
        have := (ha.has k c).1 hk
        split at this
        · rename_i hke
          rw [this, hke]
          exact ⟨e, setE_mem_self e l, rfl, hnew⟩
        · exact hold k c this (by assumption), fun y hy => by
        rcases setE_only h.asc hy with rfl | ⟨hy, hne⟩
        · exact ⟨cs, (ha.has _ _).2 (by rw [if_pos rfl])⟩
        · obtain ⟨c, hc⟩ := h.all y hy
          exact ⟨c, (ha.has _ _).2 (by rw [if_neg hne]; exact hc)⟩, setE_asc e h.asc, hc, hn⟩
  have hcn := h.cn
  have hnb := h.nb
  refine ⟨rfl, f, bs', N', ?_⟩
  rcases ha.cnt with ⟨_, h2, h3⟩ | ⟨h1, h2, h3⟩
  · exact ⟨p, S', mk p (by omega) (by omega), hbs, by omega, fun _ => rfl⟩
  · refine ⟨p + 1, S', mk (p + 1) (by omega) (by rw [h3]; split <;> omega), hbs, by omega, fun ⟨y, hy, hyd⟩ => ?_⟩
    obtain ⟨c, hc⟩ := h.all y hy
    rw [hyd] at hc
    exact absurd hc (h1 c)
/-- the table's Cut -/
theorem tcutX_calls {X : Nat → Prop} (base ib bt bs N p : Nat) (S : Slo.SRow) (l : List En) (dg : List UInt8) (w : World) (h : Ix X w base ib bt bs N p S l) (hd : dg.length = 32) :
    Calls Try.prog 30 #[.pointer (some ⟨bt, 0, none⟩), ofL (dg.map bv)] w fun r w' => (∃ b, r = .returned (.bool b)) ∧ Fr (fun j => j = bt ∨ j = bs) w w' ∧ ∃ S', Ix X w' base ib bt bs N p S' (l.filter (fun y => !decide (y.d = dg))) := by
  refine (Slo.cut_calls' base bt bs N S dg w h.tb hd).mono ?_
  rintro r w' ⟨f, S', hT, hr⟩
  have hf : ∀ y c, EnP (fun j => ¬ DI ib bt bs j ∧ X j) w c y → EnP (fun j => ¬ DI ib bt bs j ∧ X j) w' c y := fun y c hy => hy.fr f (fun j hj hD => hj.1 (.inr hD))
  have ri := h.ri.fr f (fun hD => hD.elim h.nt h.ns)
  have hcn := h.cn
  rcases hr with ⟨rfl, _, h2, h3⟩ | ⟨rfl, h1, rfl⟩
  · refine ⟨⟨_, rfl⟩, f, S', ri, hT, h.ba, h.nt, h.ns, fun k c hk => ?_, fun y hy => ?_, h.asc.filter _, by omega, h.nb⟩
    · obtain ⟨hne, hk⟩ := (h3 k c).1 hk
      obtain ⟨y, hy, hyd, hyp⟩ := h.has k c hk
      exact ⟨y, List.mem_filter.2 ⟨hy, by rw [hyd]; simp [hne]⟩, hyd, hf y c hyp⟩
    · obtain ⟨hy, hne⟩ := List.mem_filter.1 hy
      obtain ⟨c, hc⟩ := h.all y hy
      exact ⟨c, (h3 _ _).2 ⟨by simpa using hne, hc⟩⟩
  · have hall : l.filter (fun y => !decide (y.d = dg)) = l := List.filter_eq_self.2 (fun y hy => by
      obtain ⟨c, hc⟩ := h.all y hy
      have : y.d ≠ dg := fun hh => by rw [hh] at hc; exact h1 c hc
      simp [this])
    rw [hall]
    refine ⟨⟨_, rfl⟩, f, S', ri, hT, h.ba, h.nt, h.ns, fun k c hk => ?_, h.all, h.asc, hcn, h.nb⟩
    obtain ⟨y, hy, hyd, hyp⟩ := h.has k c hk
    exact ⟨y, hy, hyd, hf y c hyp⟩
set_option maxRecDepth 10000 in
theorem freshE_calls {P : Nat → Prop} (e : En) (x0 : List Value) (w : World) (h : EnP P w x0 e) (hn : e.l.length ≤ 4294967296) :
    Calls Try.prog 22 #[ofL x0] w fun r w' => Fr (fun _ => False) w w' ∧ ∃ cs, r = .returned (ofL cs) ∧ EnP (fun k => w.heap.size ≤ k) w' cs e := by
  refine (F22.of x0 w (Q := fun v w' => Fr (fun _ => False) w w' ∧ ∃ cs, v = ofL cs ∧ EnP (fun k => w.heap.size ≤ k) w' cs e) ?_).mono (fun e w' ⟨v, he, hf, cs, hv, h⟩ => ⟨hf, cs, by rw [he, hv], h⟩)
  obtain ⟨A, n, c, rfl, hs, hd, _⟩ := h
  have hl := sl_n hs
  refine nw2 (fun b1 b5 u f r1 r5 hb1w hb5w n15 => ?_)
  have r1' : RecAt u b1 _ ([] ++ (e.d.map bv ++ [.int .i64 e.k, .int .i64 e.z, .int .i64 e.s, .int .i64 e.o, .int .i64 e.q, .slice A n c])) := r1
  have hb1 := r1.lt
  have hb5 := r5.lt
  refine ⟨A, n, c, rec_end r1' (bvl hd) (j := 5) rfl rfl, (clI_calls A n c e.l u (sl_fr hs f) (by omega)).mono ?_⟩
  rintro r v ⟨g, A', c', rfl, hr⟩
  refine ⟨_, _, _, rfl, ?_⟩
  have r1v := r1.fr g (fun h => h)
  refine r1v.st_mk (o := 0 + 37) (by simp [En.cs, hd]) (fun v hv => by simp at hv; subst hv; rfl) (fun r f1 => ?_)
  have hsp := En.splice_l e A A' n n c c' e.l hd
  have r : RecAt (stB v b1 (0 + 37) [Value.slice A' n c']) b1 42 (e.cs A' n c') := by rw [← hsp]; exact r
  generalize stB v b1 (0 + 37) [Value.slice A' n c'] = v2 at r f1 ⊢
  refine ⟨_, by simp [En.cs, hd], rec_all r, gd_mk (by simp [En.cs, hd]) ?_⟩
  have r5v := (r5.fr g (fun h => h)).fr f1 (fun h => n15 h.symm)
  have hr2 := f1.row hr (fun k hk h' => by have := (hr.blt hk).1; omega)
  exact st_all r5v z28 (by simp [En.cs, hd]) (e.one A' _ c') (fun w' f5 r5' => ⟨fr_own (fr_own (f.trans1 g) f1 hb1w) f5 hb5w, _, rfl, A', _, c', rfl, sl_fr1 hr2 f5 hb5, hd, fun _ k hk => Nat.le_trans f.size (hr.blt hk).1⟩)
set_option maxRecDepth 10000 in
theorem newX_calls {X P : Nat → Prop} (A : Option Addr) (n c : Nat) (l : List En) (w : World) (h : RE P w A n l) (hn : n ≤ 1000000000) (hb : BdE 4294967296 l) (hX : ∀ k, w.heap.size ≤ k → X k) :
    Calls Try.prog 6 #[.slice A n c] w fun e w' => Fr (fun _ => False) w w' ∧ ∃ ib bt bs N p S, e = .returned (.pointer (some ⟨ib, 0, none⟩)) ∧ Ix X w' w.heap.size ib bt bs N p S (newE l) ∧ p ≤ n := by
  refine (F6.of A n c w (Q := fun v w' => Fr (fun _ => False) w w' ∧ ∃ ib bt bs N p S, v = .pointer (some ⟨ib, 0, none⟩) ∧ Ix X w' w.heap.size ib bt bs N p S (newE l) ∧ p ≤ n) ?_).mono (fun e w' ⟨v, he, hf, a, b, c, d, e', g, hv, h⟩ => ⟨hf, a, b, c, d, e', g, by rw [he, hv], h⟩)
  have hl := h.len
  refine (Slo.new_calls w).mono ?_
  rintro r w1 ⟨bt, bs0, rfl, f1, hT, _⟩
  refine ⟨_, rfl, nw_mk ?_⟩
  rw [List.append_nil]
  have f2 : Fr (fun _ => False) w1 (w1.alloc (.cells [Value.pointer (some ⟨bt, 0, none⟩)].toArray 62)) := Fr.alloc _ _ _
  have r2 := RecAt.new w1 [Value.pointer (some ⟨bt, 0, none⟩)] 62
  have hs1 := f1.size
  have hlt := hT.lts
  have hT2 := hT.off f2 (fun h => h) (fun h => h)
  generalize w1.alloc (.cells [Value.pointer (some ⟨bt, 0, none⟩)].toArray 62) = w2 at f2 r2 hT2 ⊢
  have f12 := f1.trans1 f2
  have no0 : ∀ k cs, ¬ Slo.Has (Slo.row0 8) k cs := fun k cs ⟨q, hq⟩ => Slo.row0_no 8 q k cs hq
  have I0 : Ix X w2 w.heap.size w1.heap.size bt bs0 8 0 (Slo.row0 8) [] :=
    ⟨r2, hT2, hs1, by omega, by omega, fun k cs hk => absurd hk (no0 k cs), (fun e he => by cases he), List.Pairwise.nil, by rw [Slo.row0, Slo.cntF_none]; exact Nat.le_refl _, by omega⟩
  refine jnC_mk (loop_rule (fun s u => Fr (fun _ => False) w u ∧ ∃ (i : Nat) (bs N p : Nat) (S : Slo.SRow), i ≤ n ∧ p ≤ i ∧ s = ((w1.heap.size, 0), (A, n, c), (n : Int), (i : Int), ()) ∧ Ix X u w.heap.size w1.heap.size bt bs N p S (newE (l.take i)))
    (fun s _ => (n - s.2.2.2.1).toNat) ?_ _ _ ⟨f12, 0, bs0, 8, 0, _, by omega, by omega, rfl, I0⟩)
  rintro s u C ⟨hf, i, bs, N, p, S, hi, hpi, rfl, hI⟩ hC _
  refine vIf_mk (fun hlt => ?_) (fun hge => ?_)
  · have hlt2 : (i : Int) < (n : Int) := of_decide_eq_true hlt
    have gi : l[i]? = some (l[i]'(by omega)) := List.getElem?_eq_getElem (by omega)
    generalize l[i]'(by omega) = x at gi
    refine e_rd (h.fr0 hf) gi (fun b o cs hA hEn hc => ⟨cs, hEn.len, hc, var_mk z28 hEn.len hEn.one (fun b6 u1 g1 r6 => ?_)⟩)
    have g1 := g1.trans1 (Fr.drew _ u1)
    have r6 : RecAt u1.drew _ _ _ := r6
    have hI1 := hI.fr0 g1
    generalize u1.drew = u1 at g1 r6 hI1 ⊢
    refine ⟨_, hI1.ri.cell rfl, x.d.map bv, bvl hEn.dl, e_dig hEn (rec_all r6), cs, hEn.len, rec_all r6, (freshE_calls x cs u1 (hEn.fr0 g1) (hb.at gi)).mono ?_⟩
    rintro r u2 ⟨g2, cs2, rfl, hE2⟩
    have g12 := g1.trans1 g2
    have hI2 := hI1.fr0 g2
    refine ⟨_, rfl, kp_mk g2 r6.lt (fun h => h) (kp_mk g2 hI1.ri.lt (fun h => h) ?_)⟩
    have hsx := (hf.trans1 g1).size
    refine (tputX_calls w.heap.size w1.heap.size bt bs N p S _ x cs2 u2 hI2 (hE2.mono (fun k _ hk => ⟨fun h' => by have := (hI1.lt h').2; omega, hX k (by omega)⟩)) (by omega) (hf.trans1 g12).size).mono ?_
    rintro r u3 ⟨rfl, g3, bs3, N3, p3, S3, h3, _, hp3, _⟩
    rw [← newE_step gi] at h3
    refine ⟨rfl, jnC_mk (hC _ _ ⟨(hf.trans1 g12).trans g3 (fun _ _ h => h) (fun k hk h' => by have := (hI2.lt (.inr h')).1; omega), i + 1, bs3, N3, p3, S3, by omega, by omega, by rw [ei i (by omega)], h3⟩ ?_)⟩
    show ((n : Int) - IntKind.wrap .i64 ((i : Int) + 1)).toNat < ((n : Int) - (i : Int)).toNat
    rw [ei i (by omega)]; omega
  · have hge2 : ¬ (i : Int) < (n : Int) := of_decide_eq_false hge
    rw [List.take_of_length_le (by omega)] at hI
    exact ⟨hf, _, bt, bs, N, p, S, rfl, hI, by omega⟩
end Go.Proofs.Ytnablplljilahaa
