import Derived.Test.YthcclmlbkfadcaaGreatRows
import Derived.WalkKit
import Derived.ProofKit
import Derived.OpenShut
import Derived.JoinedCond
import Derived.Test.YthcclmlbkfadcaaGreatP5
/- chapter 22: lives -/
namespace Go.Proofs.YthcclmlbkfadcaaGreat
open Go.GV Go.RowKit Go.Lib Go.Stb
open Tg (Tn liveT)
set_option linter.unusedVariables false
set_option linter.unusedSimpArgs false
def one1 : List UInt8 := 1 :: List.replicate 31 0
def wd1 : Wd := ⟨1, 0, one1, ⟨#[]⟩, 9, 1, 37, 62⟩
def wd2 : Wd := ⟨5, 0, one1, ⟨#[]⟩, 0, 2, 37, 53⟩
theorem wd_h1 : (herL 1 (applyE (applyE [] wd1) wd2) (Tg.applyL wd2 (Tg.applyL wd1 []))).length = 0 := by decide +kernel
theorem wd_h2 : (herL 2 (applyE (applyE [] wd1) wd2) (Tg.applyL wd2 (Tg.applyL wd1 []))).length = 1 := by decide +kernel
def ll3 (l : List Lo) : List (Int × Int × Int) := l.map (fun x => (x.s, x.a, x.v))
theorem ll3_inj : ∀ {l m : List Lo}, ll3 l = ll3 m → l = m
  | [], [], _ => rfl
  | [], _ :: _, h => by cases h
  | _ :: _, [], h => by cases h
  | ⟨a, b, c⟩ :: r, ⟨a', b', c'⟩ :: r', h => by
    simp only [ll3, List.map_cons, List.cons.injEq, Prod.mk.injEq] at h
    rw [h.1.1, h.1.2.1, h.1.2.2, ll3_inj (l := r) (m := r') h.2]
theorem wd_ld : loadsL (applyE (applyE [] wd1) wd2) (Tg.applyL wd2 (Tg.applyL wd1 [])) (applyS wd2 (applyS wd1 [])) = [⟨1, 62, 0⟩, ⟨2, 53, 53⟩] := ll3_inj (by decide +kernel)
theorem SB.nil (d : SD) (h1 : d.lE = []) (h2 : d.lT = []) (h3 : d.lL = []) (hp : d.p ≤ 10) : SB 10 d := by
  refine ⟨?_, ?_, hp, by rw [h2]; exact Nat.zero_le _, by rw [h3]; exact Nat.zero_le _, by rw [h1]; exact Nat.zero_le _⟩
  · rw [h1]; intro e he; cases he
  · rw [h2]; intro e he; cases he
theorem SB.mono {m m' : Nat} {d : SD} (h : SB m d) (hm : m ≤ m') : SB m' d :=
  ⟨h.e.mono hm, fun e he => Nat.le_trans (h.t e he) hm, Nat.le_trans h.p hm, Nat.le_trans h.tl hm, Nat.le_trans h.ll hm, Nat.le_trans h.el hm⟩
theorem SB.app {m : Nat} {d d' : SD} (h : SB m d) (x : Wd) (h1 : d'.lE = applyE d.lE x) (h2 : d'.lT = Tg.applyL x d.lT) (h3 : d'.lL = applyS x d.lL) (hp : d'.p = d.p + 1) : SB (m + 1) d' := by
  have a1 := applyE_len d.lE x
  have a2 := Tg.applyL_len x d.lT
  have a3 := applyS_len x d.lL
  refine ⟨?_, ?_, by have := h.p; omega, by rw [h2]; have := h.tl; omega, by rw [h3]; have := h.ll; omega, by rw [h1]; have := h.el; omega⟩
  · rw [h1]; exact applyE_bd h.e x
  · rw [h2]; exact Tg.applyL_bd h.t x
theorem SB.kept {m : Nat} {d d' : SD} (h : SB m d) (sg : List Int) (h1 : d'.lE = keepLE sg d.lE) (h2 : d'.lT = Tg.keepL sg d.lT) (h3 : d'.lL = keptL sg d.lL) (hp : d'.p = d.p) : SB m d' := by
  have a1 := keepLE_len sg d.lE
  have a2 := Tg.keepL_len sg d.lT
  have a3 := keptL_len sg d.lL
  refine ⟨?_, ?_, by have := h.p; omega, by rw [h2]; have := h.tl; omega, by rw [h3]; have := h.ll; omega, by rw [h1]; have := h.el; omega⟩
  · rw [h1]; exact h.e.keep sg
  · rw [h2]; exact Tg.keepL_bd h.t sg
set_option maxRecDepth 100000 in
set_option maxHeartbeats 1000000 in
theorem lives_calls (w : World) : Calls Tryz.prog 10 #[] w fun e w' => e = .returned (.bool true) ∧ Fr (fun _ => False) w w' := by
  refine (F10.of w (Q := fun v w' => v = .bool true ∧ Fr (fun _ => False) w w') ?_).mono (fun e w' ⟨v, he, hv, h⟩ => ⟨by rw [he, hv], h⟩)
  refine (newS_calls _ [] [] [] w ⟨0, 0, 0, 0, none, 0, 0, none, 0, 0, none, 0, 0, rfl, RE.nil _ _ _, Tg.RT.nil _ _ _, Sl.nil _ _ _, rfl⟩ (by simp) (by simp) (by simp) (fun e he => by cases he) (fun e he => by cases he)).mono ?_
  rintro r w1 ⟨f1, sb, d, rfl, hst, e1, e2, e3, hp⟩
  have hb0 := SB.nil d e1 e2 e3 (by simp at hp; omega)
  have s1 := f1.size
  refine ⟨_, rfl, gd_mk rfl (gd_mk rfl ((applyS_calls hst wd1 rfl (hb0.mono (by omega)) s1).mono ?_))⟩
  rintro r w2 ⟨rfl, d1, h1, q1, q2, q3, q4⟩
  have hb1 := hb0.app wd1 q1 q2 q3 q4
  have s2 := h1.fr.size
  refine ⟨rfl, gd_mk rfl (gd_mk rfl ((applyS_calls h1.st wd2 rfl (hb1.mono (by omega)) (by omega)).mono ?_))⟩
  rintro r w3 ⟨rfl, d2, h2, p1, p2, p3, p4⟩
  have hb2 := hb1.app wd2 p1 p2 p3 p4
  have f3 : Fr (fun _ => False) w w3 := (f1.trans h1.fr (U := fun _ => False) (fun _ _ h => h) (fun k hk h => by have := (hst.lt h).1; omega)).trans h2.fr (fun _ _ h => h) (fun k hk h => by have := (h1.st.lt h).1; omega)
  have hE : d2.lE = applyE (applyE [] wd1) wd2 := by rw [p1, q1, e1]; rfl
  have hT : d2.lT = Tg.applyL wd2 (Tg.applyL wd1 []) := by rw [p2, q2, e2]; rfl
  have hL : d2.lL = applyS wd2 (applyS wd1 []) := by rw [p3, q3, e3]; rfl
  have hb3 : SB 50000000 d2 := hb2.mono (by omega)
  refine ⟨rfl, (loadsS_calls h2.st hb3).mono ?_⟩
  rintro r w4 ⟨f4, A, c, rfl, hr⟩
  have hll : d2.nL = 2 := by
    have h5 := loadsL_len d2.lE d2.lT d2.lL
    rw [hE, hT, hL, wd_ld, ← hL, h2.st.ll] at h5
    exact h5.symm
  rw [hE, hT, hL, wd_ld, hll] at hr
  rw [hll]
  refine ⟨A, 2, c, rfl, (hereS_calls (h2.st.fr0 f4) 1 hb3).mono ?_⟩
  rintro r w5 ⟨f5, A5, c5, rfl, _⟩
  rw [hE, hT, wd_h1]
  refine ⟨_, _, _, rfl, vIf_t rfl ((hereS_calls (h2.st.fr0 (f4.trans1 f5)) 2 hb3).mono ?_)⟩
  rintro r w6 ⟨f6, A6, c6, rfl, _⟩
  rw [hE, hT, wd_h2]
  have hs := (f5.trans1 f6).sl hr.sl (fun _ _ _ h => h)
  refine ⟨_, _, _, rfl, vIf_t rfl (vIf_t rfl ?_)⟩
  obtain ⟨b, o, rfl, hc⟩ := hs.2 (by decide)
  refine dr_mk (gd_mk rfl ⟨encL ⟨1, 62, 0⟩, rfl, fun j v hj => hc j v (by rw [flt_cons, List.getElem?_append_left (List.getElem?_eq_some_iff.1 hj).1]; exact hj), ⟨[1, 62, 0], [1, 62, 0], rfl, rfl, rfl, rfl, vIf_t rfl ?_⟩⟩)
  refine dr_mk (gd_mk rfl ⟨encL ⟨2, 53, 53⟩, rfl, fun j v hj => by rw [Nat.add_assoc]; exact hc (3 + j) v (by rw [flt_cons, List.getElem?_append_right (by simp [encL]), show 3 + j - (encL ⟨1, 62, 0⟩).length = j from by simp [encL]]; exact hj), ⟨[2, 53, 53], [2, 53, 53], rfl, rfl, rfl, rfl, rfl, ((f3.trans1 f4).trans1 f5).trans1 f6⟩⟩)
end Go.Proofs.YthcclmlbkfadcaaGreat
/- deeds: a kind, a word, segments; rows of them -/
namespace Go.Proofs.YthcclmlbkfadcaaGreat
open Go.GV Go.RowKit Go.Lib
set_option linter.unusedVariables false
set_option linter.unusedSimpArgs false
structure Dd where
  kind : Int
  x : Wd
  sg : List Int
def DdAt (w : World) (cs : List Value) (d : Dd) : Prop := ∃ S m k, cs = [Value.int .i64 d.kind] ++ (d.x.cs ++ [.slice S m k]) ∧ Sl w 1 S m (ivs d.sg) ∧ d.x.d.length = 32 ∧ m ≤ 1048576
theorem DdAt.fr {w w' : World} {cs : List Value} {d : Dd} (h : DdAt w cs d) (f : Fr (fun _ => False) w w') : DdAt w' cs d := by
  obtain ⟨S, m, k, h1, h2, h3, h4⟩ := h
  exact ⟨S, m, k, h1, sl_fr h2 f, h3, h4⟩
/-- a row of deeds -/
def DRow (w : World) (A : Option Addr) (n : Nat) (l : List Dd) : Prop := l.length = n ∧ (n ≠ 0 → ∃ b o, A = some ⟨b, o, none⟩ ∧ ∀ (i : Nat) (d : Dd), l[i]? = some d → ∃ cs, DdAt w cs d ∧ cellsAt w b (o + i * 41) cs)
theorem DRow.fr {w w' : World} {A : Option Addr} {n : Nat} {l : List Dd} (h : DRow w A n l) (f : Fr (fun _ => False) w w') : DRow w' A n l := by
  refine ⟨h.1, fun h0 => ?_⟩
  obtain ⟨b, o, hA, hc⟩ := h.2 h0
  refine ⟨b, o, hA, fun i d hi => ?_⟩
  obtain ⟨cs, h1, h2⟩ := hc i d hi
  exact ⟨cs, h1.fr f, f.cells h2 (fun h => h)⟩
/-- a deed's parts, where it lies -/
theorem dd_kind {w : World} {b p : Nat} {d : Dd} {S : Option Addr} {m k : Nat} (h : cellsAt w b p ([Value.int .i64 d.kind] ++ (d.x.cs ++ [.slice S m k]))) : cellAt w b p = some (.int .i64 d.kind) := h 0 _ rfl
theorem dd_word {w : World} {b p : Nat} {d : Dd} {S : Option Addr} {m k : Nat} (h : cellsAt w b p ([Value.int .i64 d.kind] ++ (d.x.cs ++ [.slice S m k]))) : cellsAt w b (p + 1) d.x.cs := fun j v hj => by
  have hj' := (List.getElem?_eq_some_iff.1 hj).1
  rw [Nat.add_assoc]
  refine h (1 + j) v ?_
  rw [List.getElem?_append_right (by simp), List.getElem?_append_left (by simp; omega)]
  simpa using hj
theorem dd_segs {w : World} {b p : Nat} {d : Dd} {S : Option Addr} {m k : Nat} (hx : d.x.d.length = 32) (h : cellsAt w b p ([Value.int .i64 d.kind] ++ (d.x.cs ++ [.slice S m k]))) : cellAt w b (p + 40) = some (.slice S m k) := by
  refine h 40 _ ?_
  have : d.x.cs.length = 39 := by simp [Wd.cs, hx]
  rw [List.getElem?_append_right (by simp), List.getElem?_append_right (by simp [this])]
  simp [this]
/-- rows of words -/
def WRow (w : World) (A : Option Addr) (n : Nat) (l : List Wd) : Prop := l.length = n ∧ (∀ x ∈ l, x.d.length = 32) ∧ (n ≠ 0 → ∃ b o, A = some ⟨b, o, none⟩ ∧ ∀ (i : Nat) (x : Wd), l[i]? = some x → cellsAt w b (o + i * 39) x.cs)
theorem WRow.fr {w w' : World} {A : Option Addr} {n : Nat} {l : List Wd} (h : WRow w A n l) (f : Fr (fun _ => False) w w') : WRow w' A n l := by
  refine ⟨h.1, h.2.1, fun h0 => ?_⟩
  obtain ⟨b, o, hA, hc⟩ := h.2.2 h0
  exact ⟨b, o, hA, fun i x hi => f.cells (hc i x hi) (fun h => h)⟩
end Go.Proofs.YthcclmlbkfadcaaGreat
/- chapter 22: what deeds come to -/
namespace Go.Proofs.YthcclmlbkfadcaaGreat
open Go.GV Go.RowKit Go.Lib Go.Stb
open Tg (Tn liveT)
set_option linter.unusedVariables false
set_option linter.unusedSimpArgs false
/-! ### a block without ints has no row of ints -/
def NoI (xs : List Value) : Prop := ∀ (o : Nat) (k : IntKind) (x : Int), xs[o]? ≠ some (.int k x)
theorem sl_nb {w : World} {A : Option Addr} {n : Nat} {l : List Int} {b : Nat} {t : TypeId} {xs : List Value} (h : Sl w 1 A n (ivs l)) (r : RecAt w b t xs) (hx : NoI xs) (h0 : n ≠ 0) {k : Nat} (hk : blkOf A = some k) : k ≠ b := by
  rintro rfl
  have hl := sl_n h
  obtain ⟨b', o, rfl, hc⟩ := h.2 h0
  injection hk with hk
  have hk : b' = k := hk
  subst hk
  have gi : l[0]? = some (l[0]'(by omega)) := List.getElem?_eq_getElem (by omega)
  have := hc 0 _ (ivs_at gi)
  exact hx _ _ _ (r.get this)
theorem EnP.nb {P : Nat → Prop} {w : World} {cs : List Value} {e : En} {b : Nat} {t : TypeId} {xs : List Value} (h : EnP P w cs e) (r : RecAt w b t xs) (hx : NoI xs) : EnP (fun k => P k ∧ k ≠ b) w cs e := by
  obtain ⟨A, n, c, h1, h2, h3, h4⟩ := h
  exact ⟨A, n, c, h1, h2, h3, fun h0 k hk => ⟨h4 h0 k hk, sl_nb h2 r hx h0 hk⟩⟩
theorem TnP.nb {P : Nat → Prop} {w : World} {cs : List Value} {e : Tn} {b : Nat} {t : TypeId} {xs : List Value} (h : Tg.TnP P w cs e) (r : RecAt w b t xs) (hx : NoI xs) : Tg.TnP (fun k => P k ∧ k ≠ b) w cs e := by
  obtain ⟨A, n, c, h1, h2, h3, h4⟩ := h
  exact ⟨A, n, c, h1, h2, h3, fun h0 k hk => ⟨h4 h0 k hk, sl_nb h2 r hx h0 hk⟩⟩
theorem Ix.nb_ {X : Nat → Prop} {w : World} {base ib bt bs N p : Nat} {S : Slo.SRow} {l : List En} {b : Nat} {t : TypeId} {xs : List Value} (h : Ix X w base ib bt bs N p S l) (r : RecAt w b t xs) (hx : NoI xs) : Ix (fun k => X k ∧ k ≠ b) w base ib bt bs N p S l :=
  ⟨h.ri, h.tb, h.ba, h.nt, h.ns, fun k cs hk => by
    obtain ⟨e, h1, h2, h3⟩ := h.has k cs hk
    exact ⟨e, h1, h2, (h3.nb r hx).mono (fun j hj hh => ⟨hh.1.1, hh.1.2, hh.2⟩)⟩, h.all, h.asc, h.cn, h.nb⟩
theorem Tab.nb_ {X : Nat → Prop} {w : World} {base tb : Nat} {R : Option Addr} {n c : Nat} {l : List Tn} {b : Nat} {t : TypeId} {xs : List Value} (h : Tg.Tab X w base tb R n c l) (r : RecAt w b t xs) (hx : NoI xs) : Tg.Tab (fun k => X k ∧ k ≠ b) w base tb R n c l := by
  obtain ⟨vs, h1, h2⟩ := h.ot
  exact ⟨h.rc, ⟨vs, h1, ⟨h2.len, fun i e hi => (TnP.nb (h2.at_ i e hi) r hx).mono (fun j hj hh => ⟨hh.1.1, hh.1.2.1, hh.1.2.2, hh.2⟩)⟩⟩, h.ne, h.ba⟩
/-- a block that is not a state's, and has no ints, may change -/
theorem Sta.off {u u' : World} {B sb : Nat} {d : SD} (h : Sta u B sb d) {b : Nat} {t : TypeId} {xs : List Value} (r : RecAt u b t xs) (hx : NoI xs) (hb : ¬ d.D sb b) (f : Fr (fun k => k = b) u u') : Sta u' B sb d := by
  refine ⟨h.rs.fr f (fun e => hb (.inl e.symm)), h.ba, ?_, ?_, h.ta, f.row h.ld (fun k hk e => hb (.inr (.inr (.inr (by rw [← show k = b from e]; exact hk))))), h.ll, h.la, h.lz, h.s1, h.s2, h.s3, h.it, h.il, h.tl⟩
  · exact ((Ix.nb_ h.ix r hx).off f (fun k hk e => hb (.inr (.inl (by rw [← show k = b from e]; exact hk)))) (fun k hk e => hk.2 e)).monoX (fun k _ hk => hk.1)
  · exact ((Tab.nb_ h.tg r hx).off f (fun k hk e => hb (.inr (.inr (.inl (by rw [← show k = b from e]; exact hk))))) (fun k hk e => hk.2 e)).monoX (fun k _ hk => hk.1)
theorem noI3 {D : Nat → Prop} {w : World} {cs : List Value} {E : List En} {T : List Tn} {Ls : List Lo} (h : RSt D w cs E T Ls) : NoI cs := by
  obtain ⟨A, n, c, A', n', c', A'', n'', c'', e, _⟩ := h
  subst e
  intro o k x
  match o with
  | 0 => simp
  | 1 => simp
  | 2 => simp
  | o + 3 => simp
/-! ### where the deeds stand -/
structure StS (w : World) (B i sb b11 : Nat) (u : World) (d : SD) (cs : List Value) : Prop where
  fr : Fr (fun _ => False) w u
  st : Sta u B sb d
  rc : RecAt u b11 44 cs
  rd : RSt (fun k => d.D sb k ∨ k = b11) u cs d.lE d.lT d.lL
  nb : ¬ d.D sb b11
  wb : w.heap.size ≤ b11
  bd : SB (1048576 + i) d
theorem StS.fr0 {w : World} {B i sb b11 : Nat} {u u' : World} {d : SD} {cs : List Value} (h : StS w B i sb b11 u d cs) (f : Fr (fun _ => False) u u') : StS w B i sb b11 u' d cs :=
  ⟨h.fr.trans1 f, h.st.fr0 f, h.rc.fr f (fun h => h), h.rd.fr0 f, h.nb, h.wb, h.bd⟩
theorem StS.lt {w : World} {B i sb b11 : Nat} {u : World} {d : SD} {cs : List Value} (h : StS w B i sb b11 u d cs) : ∀ k, d.D sb k ∨ k = b11 → k < u.heap.size := fun k hk => hk.elim (fun h' => (h.st.lt h').2) (fun e => by rw [e]; exact h.rc.lt)
theorem SB.two {m : Nat} {d : SD} (h : SB m d) (hm : m ≤ 50000000) : SB2 d.lE d.lT d.lL :=
  ⟨h.e.mono (by omega), fun e he => Nat.le_trans (h.t e he) (by omega), Nat.le_trans h.el (by omega), Nat.le_trans h.tl (by omega), Nat.le_trans h.ll (by omega)⟩
/-- behind the program's deed, ahead of the document's -/
structure Mid (w : World) (B i sb b11 : Nat) (u : World) (d d' : SD) (cs : List Value) : Prop where
  fr : Fr (fun _ => False) w u
  st : Sta u B sb d'
  rc : RecAt u b11 44 cs
  rd : RSt (fun k => d'.D sb k ∨ k = b11) u cs d.lE d.lT d.lL
  nb : ¬ d'.D sb b11
  wb : w.heap.size ≤ b11
theorem StS.mid {w : World} {B i sb b11 : Nat} {u u' : World} {d d' : SD} {cs : List Value} (h : StS w B i sb b11 u d cs) (s : Stp u u' B sb d d') (hB : w.heap.size ≤ B) : Mid w B i sb b11 u' d d' cs :=
  ⟨h.fr.trans s.fr (fun _ _ h => h) (fun k hk h' => by have := (h.st.lt h').1; omega), s.st, h.rc.fr s.fr h.nb, h.rd.step (s.fr.mono (fun k _ hk => .inl hk)) (fun k hk => hk.elim (fun h' => (s.up k h').imp .inl id) (fun e => .inl (.inr e))), fun h' => (s.up _ h').elim h.nb (fun h2 => by have := h.rc.lt; omega), h.wb⟩
theorem Mid.lt {w : World} {B i sb b11 : Nat} {u : World} {d d' : SD} {cs : List Value} (h : Mid w B i sb b11 u d d' cs) : ∀ k, d'.D sb k ∨ k = b11 → k < u.heap.size := fun k hk => hk.elim (fun h' => (h.st.lt h').2) (fun e => by rw [e]; exact h.rc.lt)
/-- the document's state behind it is put into its variable -/
theorem Mid.put {w : World} {B i j sb b11 : Nat} {u v : World} {d d' : SD} {cs cs' : List Value} {K : World → Prop} (h : Mid w B i sb b11 u d d' cs) (f : Fr (fun _ => False) u v) (rd : RSt (fun k => d'.D sb k ∨ k = b11) v cs' d'.lE d'.lT d'.lL) (hb : SB (1048576 + j) d')
    (hK : ∀ y, StS w B j sb b11 y d' cs' → Fr (fun k => k = b11) v y → K y) : gd (cs'.length == 3) (Go.GV.st v b11 0 cs' K) := by
  have hl := h.rd.len
  have hl' := rd.len
  have r := h.rc.fr f (fun h => h)
  refine gd_mk (by rw [hl']; rfl) (r.st_mk (o := 0) (by rw [hl', hl]; omega) rd.one (fun r2 f2 => hK _ ⟨fr_own (h.fr.trans1 f) f2 h.wb, (h.st.fr0 f).off r (noI3 h.rd) h.nb f2, ?_, rd.step (f2.mono (fun k _ e => .inr e)) (fun k hk => .inl hk), h.nb, h.wb, hb⟩ f2))
  rw [splice_full (by rw [hl', hl])] at r2
  exact r2
set_option maxHeartbeats 2000000 in
set_option maxRecDepth 100000 in
theorem does_law (cs0 : List Value) (E0 : List En) (T0 : List Tn) (L0 : List Lo) (A1 : Option Addr) (n1 c1 : Nat) (ds : List Dd) (w : World) (h0 : SnAt w cs0 E0 T0 L0) (h1 : DRow w A1 n1 ds) (hE : E0.length ≤ 1048576) (hT : T0.length ≤ 1048576) (hL : L0.length ≤ 1048576) (hn1 : n1 ≤ 1048576) (bE : BdE 1048576 E0) (bT : Tg.Bd 1048576 T0) (hw : ∀ x ∈ L0, wr x.a = x.a) (hq : ∀ d ∈ ds, wr d.x.q = d.x.q) :
    Calls Tryz.prog 5 #[ofL cs0, .slice A1 n1 c1] w fun r w' => r = .returned (.bool true) ∧ Fr (fun _ => False) w w' := by
  refine (F5.of cs0 A1 n1 c1 w (Q := fun v w' => v = .bool true ∧ Fr (fun _ => False) w w') ?_).mono (fun e w' ⟨v, he, hv, h⟩ => ⟨by rw [he, hv], h⟩)
  have hdl := h1.1
  have hl0 := h0.len
  refine nw_mk ?_
  have f1 : Fr (fun _ => False) w (w.alloc (.cells cs0.toArray 30)) := Fr.alloc _ _ _
  have r1 := RecAt.new w cs0 30
  generalize hb1 : w.heap.size = b1 at r1 ⊢
  generalize w.alloc (.cells cs0.toArray 30) = w2 at f1 r1 ⊢
  have h02 := h0.fr0 f1
  refine ⟨cs0, hl0, rec_all r1, (newS_calls cs0 E0 T0 L0 w2 h02 (by omega) (by omega) (by omega) (bE.mono (by omega)) (fun e he => Nat.le_trans (bT e he) (by omega))).mono ?_⟩
  rintro r w4 ⟨f2, sb, d, rfl, hst, e1, e2, e3, hp⟩
  have g4 := f1.trans1 f2
  refine ⟨_, rfl, cs0, hl0, rec_all (r1.fr f2 (fun h => h)), (rnewS_calls (D := d.D sb) cs0 E0 T0 L0 w4 (h02.low f2) (by omega) (by omega) (by omega) hw (fun k hk => (hst.lt hk).2) (fun k hk => ⟨Nat.lt_of_lt_of_le hk f2.size, fun h => by have := (hst.lt h).1; omega⟩)).mono ?_⟩
  rintro r w8 ⟨f3, cs, rfl, hR⟩
  rw [← e1, ← e2, ← e3] at hR
  have hB : w.heap.size ≤ w2.heap.size := f1.size
  have s2 := f2.size
  have s3 := f3.size
  refine ⟨cs, rfl, nw_mk ?_⟩
  have f4 : Fr (fun _ => False) w8 (w8.alloc (.cells [Value.slice none 0 0, Value.slice none 0 0, Value.slice none 0 0].toArray 44)) := Fr.alloc _ _ _
  have r11 := RecAt.new w8 [Value.slice none 0 0, Value.slice none 0 0, Value.slice none 0 0] 44
  generalize hb11 : w8.heap.size = b11 at r11 ⊢
  generalize w8.alloc (.cells [Value.slice none 0 0, Value.slice none 0 0, Value.slice none 0 0].toArray 44) = w12 at f4 r11 ⊢
  have hst12 := hst.fr0 (f3.trans1 f4)
  have hnb : ¬ d.D sb b11 := fun h => by have := (hst.lt h).2; omega
  have hR12 : RSt (fun k => d.D sb k ∨ k = b11) w12 cs d.lE d.lT d.lL := hR.step (f4.mono (fun _ _ h => h.elim)) (fun k hk => hk.imp id (fun e => by omega))
  have hbd : SB (1048576 + 0) d := by
    have q1 := newE_bd bE E0.length
    rw [newE_all, ← e1] at q1
    have q2 := Tg.newT_bd bT T0.length
    rw [Tg.newT_all, ← e2] at q2
    have q3 := newE_len E0 E0.length
    rw [newE_all, ← e1] at q3
    have q4 := Tg.newT_len T0 T0.length
    rw [Tg.newT_all, ← e2] at q4
    have q5 := newLo_len L0
    rw [← e3] at q5
    exact ⟨q1, q2, by omega, by omega, by omega, by omega⟩
  have z0 : NoI [Value.slice none 0 0, Value.slice none 0 0, Value.slice none 0 0] := by
    intro o k x
    match o with
    | 0 => simp
    | 1 => simp
    | 2 => simp
    | o + 3 => simp
  have hcl := hR.len
  refine gd_mk (by rw [hcl]; rfl) (r11.st_mk (o := 0) (by rw [hcl]; show 0 + 3 ≤ 3; omega) hR.one (fun r13 f13 => ?_))
  rw [splice_full (by rw [hcl]; rfl)] at r13
  have g12 := (g4.trans1 f3).trans1 f4
  have hst0 : StS w w2.heap.size 0 sb b11 (stB w12 b11 0 cs) d cs := ⟨fr_own g12 f13 (by omega), hst12.off r11 z0 hnb f13, r13, hR12.step (f13.mono (fun k _ e => .inr e)) (fun k hk => .inl hk), hnb, by omega, hbd⟩
  have hBu : w2.heap.size ≤ (stB w12 b11 0 cs).heap.size := by have := f13.size; have := f4.size; omega
  generalize stB w12 b11 0 cs = w13 at hst0 hBu ⊢
  clear r13 f13 r11 f4 hst12 hnb hR12 hbd g12
  refine jnC_mk (loop_rule (fun s u => ∃ (i : Nat) (d : SD) (cs : List Value), i ≤ n1 ∧ s = ((A1, n1, c1), some ⟨sb, 0, none⟩, (b11, 0), (i : Int), ()) ∧ StS w w2.heap.size i sb b11 u d cs ∧ w2.heap.size ≤ u.heap.size)
    (fun s _ => (n1 - s.2.2.2.1).toNat) ?_ _ _ ⟨0, d, cs, by omega, rfl, hst0, hBu⟩)
  clear hst0 hBu hR hst e1 e2 e3 hp hcl
  rintro s u C ⟨i, d, cs, hi, rfl, hS, hBu⟩ hC _
  refine vIf_mk (fun hlt => ?_) (fun hge => ?_)
  · have hlt2 : (i : Int) < (n1 : Int) := of_decide_eq_true hlt
    have gi : ds[i]? = some (ds[i]'(by omega)) := List.getElem?_eq_getElem (by omega)
    generalize ds[i]'(by omega) = x at gi
    obtain ⟨b, o, hA1, hcs⟩ := h1.2 (by omega)
    obtain ⟨xcs, hd, hc⟩ := hcs i x gi
    obtain ⟨G, m, k, rfl, hG, hx, hm⟩ := hd
    have hxl := wd_len hx
    have hxq := hq x (List.mem_of_getElem? gi)
    have hGb : m ≠ 0 → ∀ k, blkOf G = some k → k < w.heap.size := fun h0 k hk => hG.blt (by decide) h0 hk
    rw [hA1]
    have i0 : decide (0 ≤ (i : Int)) = true := decide_eq_true (by omega)
    have dat : ∀ {z : World}, Fr (fun _ => False) w z → cellsAt z b (o + ((i : Int)).toNat * 41) ([Value.int .i64 x.kind] ++ (x.x.cs ++ [.slice G m k])) := fun fz => by rw [Int.toNat_natCast]; exact fz.cells hc (fun h => h)
    -- what is asked behind a deed
    have fin : ∀ (v : World) (d' : SD) (cs' : List Value) (b17 : Nat), StS w w2.heap.size (i + 1) sb b11 v d' cs' → w2.heap.size ≤ v.heap.size → RecAt v b17 37 x.x.cs →
        jnC (F5.k12 (fun v w' => v = .bool true ∧ Fr (fun _ => False) w w') C) ((some ⟨b, o, none⟩, n1, c1), some ⟨sb, 0, none⟩, (b11, 0), (i : Int), (b17, 0), ()) v := by
      intro v d' cs' b17 hS hBv r17
      have hb' : SB 50000000 d' := hS.bd.mono (by omega)
      have hb2 := hb'.two (Nat.le_refl _)
      have t1 := hb2.el
      have t2 := hb2.tl
      have t3 := hb2.ll
      have hcl := hS.rd.len
      refine jnC_mk (fun _ => ?_)
      have q0 := Fr.drew (fun _ => False) v
      have hS0 := hS.fr0 q0
      have r17d := r17.fr q0 (fun h => h)
      have hsd := q0.size
      refine ⟨cs', hcl, rec_all hS0.rc, (snapS_calls hS0.st hb').mono ?_⟩
      rintro r v1 ⟨q1, xs, rfl, hx1⟩
      refine ⟨xs, rfl, kp_mk q1 hS0.rc.lt (fun h => h) ((is_calls xs cs' _ _ _ v1 hx1 (hS0.fr0 q1).rd hb2).mono ?_)⟩
      rintro r v2 ⟨rfl, q2⟩
      have hS2 := hS0.fr0 (q1.trans1 q2)
      have r2 := r17d.fr (q1.trans1 q2) (fun h => h)
      refine ⟨_, rfl, vIf_f rfl ⟨x.x.s, wd_fld r2 hx (j := 2) rfl rfl, cs', hcl, rec_all hS2.rc, x.x.s, wd_fld r2 hx (j := 2) rfl rfl, (hereS_calls hS2.st x.x.s hb').mono ?_⟩⟩
      rintro r v3 ⟨q3, A3, c3, rfl, hW3⟩
      refine ⟨_, _, _, rfl, kp_mk q3 r2.lt (fun h => h) (kp_mk q3 hS2.rc.lt (fun h => h) ((rhere_calls cs' _ _ _ x.x.s v3 (hS2.fr0 q3).rd hb2).mono ?_))⟩
      rintro r v4 ⟨q4, A4, c4, rfl, hW4⟩
      have hll := herL_len x.x.s d'.lE d'.lT
      refine ⟨_, _, _, rfl, (words_calls A3 _ c3 A4 _ c4 (herL x.x.s d'.lE d'.lT) v4 (hW3.fr0 q4).sl hW4.sl (by omega)).mono ?_⟩
      rintro r v5 ⟨rfl, q5⟩
      have hS5 := hS2.fr0 ((q3.trans1 q4).trans1 q5)
      refine ⟨_, rfl, vIf_f rfl ⟨cs', hcl, rec_all hS5.rc, (loadsS_calls hS5.st hb').mono ?_⟩⟩
      rintro r v6 ⟨q6, A6, c6, rfl, hL6⟩
      refine ⟨_, _, _, rfl, kp_mk q6 hS5.rc.lt (fun h => h) ((rloads_calls cs' _ _ _ v6 (hS5.fr0 q6).rd hb2).mono ?_)⟩
      rintro r v7 ⟨q7, A7, c7, rfl, hL7⟩
      have hl7 := loadsL_len d'.lE d'.lT d'.lL
      refine ⟨_, _, _, rfl, (sameLo_calls A6 _ c6 A7 _ c7 (loadsL d'.lE d'.lT d'.lL) v7 (q7.sl hL6.sl (fun _ _ _ h => h)) (by rw [hl7, hS.st.ll]) hL7.1.sl rfl (by have := hS.st.ll; omega)).mono ?_⟩
      rintro r v8 ⟨rfl, q8⟩
      have q58 := (q6.trans1 q7).trans1 q8
      refine ⟨_, rfl, vIf_f rfl (jnC_mk (hC _ _ ⟨i + 1, d', cs', by omega, by rw [ei i (by omega), hA1], hS5.fr0 q58, ?_⟩ ?_))⟩
      · have := (((q1.trans1 q2).trans1 ((q3.trans1 q4).trans1 q5)).trans1 q58).size
        omega
      · show ((n1 : Int) - IntKind.wrap .i64 ((i : Int) + 1)).toNat < ((n1 : Int) - (i : Int)).toNat
        rw [ei i (by omega)]; omega
    have hb0 : SB 50000000 d := hS.bd.mono (by omega)
    have hb2 := hb0.two (Nat.le_refl _)
    refine dr_mk (gd_mk i0 (gd_mk hlt ⟨x.x.cs, hxl, dd_word (dat hS.fr), wd_var hxl (wd_ones _) (fun b17 u1 g1 hb17 r17 => ?_)⟩))
    have hS := hS.fr0 g1
    have g1s := g1.size
    have hn17 : ¬ d.D sb b17 ∧ b17 ≠ b11 := ⟨fun h => by have := (‹StS w w2.heap.size i sb b11 u d cs›.st.lt h).2; omega, fun e => by have := (‹StS w w2.heap.size i sb b11 u d cs›).rc.lt; omega⟩
    refine dr_mk (gd_mk i0 (gd_mk hlt ⟨x.kind, dd_kind (dat hS.fr), vIf_mk (fun hk => ?_) (fun hk => ?_)⟩))
    · refine ⟨x.x.cs, hxl, rec_all r17, (applyS_calls hS.st x.x hx hb0 (by omega)).mono ?_⟩
      rintro r u2 ⟨rfl, d', hs, p1, p2, p3, p4⟩
      have hM := hS.mid hs hB
      have r17 := r17.fr hs.fr hn17.1
      have ss := hs.fr.size
      refine ⟨rfl, cs, hM.rd.len, rec_all hM.rc, x.x.cs, hxl, rec_all r17, (rapplyS_calls cs _ _ _ x.x u2 hM.rd hb2 hS.st.ix.asc hS.st.ta hS.st.la hx hxq hM.lt).mono ?_⟩
      rintro r u3 ⟨f3, cs', rfl, hR'⟩
      rw [← p1, ← p2, ← p3] at hR'
      exact ⟨cs', rfl, hM.put (j := i + 1) f3 hR' (hS.bd.app x.x p1 p2 p3 p4) (fun y hy fy => fin y d' cs' b17 hy (by have := f3.size; have := fy.size; omega) ((r17.fr f3 (fun h => h)).fr fy hn17.2))⟩
    · refine dr_mk (gd_mk i0 (gd_mk hlt ⟨G, m, k, dd_segs hx (dat hS.fr), (keepS_calls hS.st G m k x.sg (sl_fr hG hS.fr) (fun h0 q hq h => by have := (hS.st.lt h).1; have := hGb h0 q hq; omega) (by omega) hb0 (by omega)).mono ?_⟩))
      rintro r u2 ⟨rfl, d', hs, p1, p2, p3, p4⟩
      have hM := hS.mid hs hB
      have r17 := r17.fr hs.fr hn17.1
      have ss := hs.fr.size
      have fd := Fr.drew (fun _ => False) u2
      have hMr := hM.rc.fr fd (fun h => h)
      have hMd := hM.rd.fr0 fd
      refine ⟨rfl, cs, hM.rd.len, rec_all hMr, dr_mk (gd_mk i0 (gd_mk hlt ⟨G, m, k, dd_segs hx (dat (hM.fr.trans1 fd)), (rkeepS_calls cs _ _ _ G m k x.sg u2.drew hMd hb2 (sl_fr hG (hM.fr.trans1 fd)) (by omega) hM.lt).mono ?_⟩))⟩
      rintro r u3 ⟨f3, cs', rfl, hR'⟩
      rw [← p1, ← p2, ← p3] at hR'
      have f3 := fd.trans1 f3
      have hbk := hS.bd.kept x.sg p1 p2 p3 p4
      exact ⟨cs', rfl, hM.put (j := i + 1) f3 hR' (SB.mono hbk (by omega)) (fun y hy fy => fin y d' cs' b17 hy (by have := f3.size; have := fy.size; omega) ((r17.fr f3 (fun h => h)).fr fy hn17.2))⟩
  · have hb' : SB 50000000 d := hS.bd.mono (by omega)
    have hb2 := hb'.two (Nat.le_refl _)
    have hcl := hS.rd.len
    have q0 := Fr.drew (fun _ => False) u
    have hS0 := hS.fr0 q0
    refine ⟨cs, hcl, rec_all hS0.rc, (snapS_calls hS0.st hb').mono ?_⟩
    rintro r v1 ⟨q1, xs, rfl, hx1⟩
    refine ⟨xs, rfl, kp_mk q1 hS0.rc.lt (fun h => h) ((is_calls xs cs _ _ _ v1 hx1 (hS0.fr0 q1).rd hb2).mono ?_)⟩
    rintro r v2 ⟨rfl, q2⟩
    refine ⟨_, rfl, vIf_t rfl ((lives_calls v2).mono ?_)⟩
    rintro r v3 ⟨rfl, q3⟩
    exact ⟨_, rfl, rfl, ((hS0.fr.trans1 q1).trans1 q2).trans1 q3⟩
end Go.Proofs.YthcclmlbkfadcaaGreat
/- For the closings: what the bound gives. -/
namespace Go.Proofs.YthcclmlbkfadcaaGreat
open Go.GV Go.ChangeShapes Go.WideShapes Go.ChangeAt Go.RowKit
set_option linter.unusedVariables false
theorem own : ownKnob Tryz.prog.godebug = none := by kernel_rfl
theorem laid : laidOutB Tryz.prog = true := by kernel_rfl
theorem small {H : Type} {l : List (DataW H)} (hk : Rows.uptoSmall H l = true) : Rows.uptoBulkAll l ≤ 1048576 := of_decide_eq_true hk
theorem one_le {H : Type} (d : DataW H) : 1 ≤ Rows.uptoBulk d := by
  cases d with
  | lit l => cases l <;> simp [Rows.uptoBulk]
  | nil => simp [Rows.uptoBulk]
  | ptr d => simp [Rows.uptoBulk]
  | slice elems spare => simp [Rows.uptoBulk]
  | agg parts => simp [Rows.uptoBulk]
  | iface t d => simp [Rows.uptoBulk]
  | map entries => simp [Rows.uptoBulk]
  | held h => simp [Rows.uptoBulk]
theorem part_le {H : Type} {d : DataW H} {l : List (DataW H)} (h : d ∈ l) : Rows.uptoBulk d ≤ Rows.uptoBulkAll l := by
  induction l with
  | nil => cases h
  | cons x r ih =>
    simp only [Rows.uptoBulkAll]
    cases List.mem_cons.1 h with
    | inl e => subst e; omega
    | inr e => have := ih e; omega
theorem part_at {H : Type} {d : DataW H} {l : List (DataW H)} {i : Nat} (h : l[i]? = some d) : Rows.uptoBulk d ≤ Rows.uptoBulkAll l := part_le (List.mem_of_getElem? h)
theorem length_le {H : Type} (l : List (DataW H)) : l.length ≤ Rows.uptoBulkAll l := by
  induction l with
  | nil => simp [Rows.uptoBulkAll]
  | cons x r ih => have := one_le x; simp only [Rows.uptoBulkAll, List.length_cons]; omega
end Go.Proofs.YthcclmlbkfadcaaGreat
/- opening words and rows of ints -/
namespace Go.Proofs.YthcclmlbkfadcaaGreat
open Go.GV Go.ChangeShapes Go.WideShapes Go.ChangeAt Go.RowKit
set_option linter.unusedVariables false
set_option linter.unusedSimpArgs false
theorem cDg : Tryz.prog.cellsOf 33 = 32 := by kernel_rfl
theorem cU8 : Tryz.prog.cellsOf 5 = 1 := by kernel_rfl
theorem cIn : Tryz.prog.cellsOf 3 = 1 := by kernel_rfl
theorem cU64 : Tryz.prog.cellsOf 25 = 1 := by kernel_rfl
theorem cBo : Tryz.prog.cellsOf 4 = 1 := by kernel_rfl
theorem cSt : Tryz.prog.cellsOf 9 = 1 := by kernel_rfl
theorem cIs : Tryz.prog.cellsOf 46 = 1 := by kernel_rfl
theorem cLo : Tryz.prog.cellsOf 35 = 3 := by kernel_rfl
theorem cWd : Tryz.prog.cellsOf 37 = 39 := by kernel_rfl
theorem cut {cs : List Value} (o k : Nat) : cs.drop o = (cs.drop o).take k ++ cs.drop (o + k) := by
  rw [← List.drop_drop]; exact (List.take_append_drop k _).symm
theorem flat_ivs : ∀ r : List Int, (r.map (fun y => [Value.int .i64 y])).flatten = ivs r
  | [] => rfl
  | a :: b => by
    rw [List.map_cons, List.flatten_cons, flat_ivs b]; rfl
theorem tr_ints {H : Type} {enc : TypeId × Value → H} {w : World} {fuel : Nat} {cs : List Value} {x : DataW H × List MemPlace} (h : TR enc Tryz.prog w fuel 46 cs x) :
    ∃ (A : Option Addr) (n c : Nat) (l : List Int), cs = [Value.slice A n c] ∧ Sl w 1 A n (ivs l) ∧ n ≤ Rows.uptoBulk x.1 := by
  obtain ⟨A, n, c, vss, hcs, h1, h2, h3, h4, h5, h6⟩ := tr_slice (P := Tryz.prog) (e := 3) Tryz.underlying46 (by rw [cIn]; decide) h
  rcases h6 with ⟨h7, rfl, rfl, rfl⟩ | ⟨es, sp, h7, h8, h9, h10⟩
  · exact ⟨none, 0, 0, [], hcs, Sl.nil _ _ _, Nat.zero_le _⟩
  · obtain ⟨r, hrl, hr⟩ := choose_list (R := fun _ v (y : Int) => v = [Value.int .i64 y]) vss (fun i v hi => by
      obtain ⟨m, y, hy, _⟩ := h10 i v hi
      obtain ⟨q, e, _⟩ := tr_int (P := Tryz.prog) (k := .i64) Tryz.underlying3 hy
      exact ⟨q, e⟩)
    have hv : vss = r.map (fun y => [Value.int .i64 y]) := by
      apply List.ext_getElem?
      intro i
      by_cases hi : i < vss.length
      · obtain ⟨y, hl, hl2⟩ := hr i _ (List.getElem?_eq_getElem hi)
        rw [List.getElem?_map, hl, List.getElem?_eq_getElem hi, hl2]; rfl
      · rw [List.getElem?_eq_none (by omega), List.getElem?_eq_none (by simp; omega)]
    rw [cIn, hv, flat_ivs] at h5
    refine ⟨A, n, c, r, hcs, h5, ?_⟩
    rw [h7]
    have := length_le es
    simp only [Rows.uptoBulk]
    omega
set_option maxRecDepth 100000 in
theorem tr_loc {H : Type} {enc : TypeId × Value → H} {w : World} {fuel : Nat} {cs : List Value} {x : DataW H × List MemPlace} (h : TR enc Tryz.prog w fuel 35 cs x) : ∃ s o q : Int, cs = [.int .i64 s, .int .i64 o, .int .i64 q] := by
  obtain ⟨hl, ds, hd, hdl, hf⟩ := tr_struct (P := Tryz.prog) Tryz.underlying35 h
  rw [cLo] at hl
  obtain ⟨m0, y0, t0, _⟩ := hf 0 _ rfl
  obtain ⟨m1, y1, t1, _⟩ := hf 1 _ rfl
  obtain ⟨m2, y2, t2, _⟩ := hf 2 _ rfl
  match cs, hl with
  | [x0, x1, x2], _ =>
    have t0 : TR enc Tryz.prog w m0 3 (([x0, x1, x2].drop 0).take (Tryz.prog.cellsOf 3)) y0 := t0
    have t1 : TR enc Tryz.prog w m1 3 (([x0, x1, x2].drop 1).take (Tryz.prog.cellsOf 3)) y1 := t1
    have t2 : TR enc Tryz.prog w m2 3 (([x0, x1, x2].drop 2).take (Tryz.prog.cellsOf 3)) y2 := t2
    simp only [cIn, List.drop_zero, List.drop_succ_cons, List.take_succ_cons, List.take_zero] at t0 t1 t2
    obtain ⟨n0, e0, _⟩ := tr_int (P := Tryz.prog) (k := .i64) Tryz.underlying3 t0
    obtain ⟨n1, e1, _⟩ := tr_int (P := Tryz.prog) (k := .i64) Tryz.underlying3 t1
    obtain ⟨n2, e2, _⟩ := tr_int (P := Tryz.prog) (k := .i64) Tryz.underlying3 t2
    simp only [List.cons.injEq, and_true] at e0 e1 e2
    subst e0; subst e1; subst e2
    exact ⟨n0, n1, n2, rfl⟩
theorem tr_dig {H : Type} {enc : TypeId × Value → H} {w : World} {fuel : Nat} {cs : List Value} {x : DataW H × List MemPlace} (h : TR enc Tryz.prog w fuel 33 cs x) : ∃ l : List UInt8, cs = l.map bv ∧ l.length = 32 :=
  tr_byteArray (P := Tryz.prog) Tryz.underlying33 Tryz.underlying5 cU8 cDg h
set_option maxRecDepth 100000 in
theorem tr_wd {H : Type} {enc : TypeId × Value → H} {w : World} {fuel : Nat} {cs : List Value} {x : DataW H × List MemPlace} (h : TR enc Tryz.prog w fuel 37 cs x) : ∃ e : Wd, cs = e.cs ∧ e.d.length = 32 := by
  obtain ⟨hl, ds, hd, hdl, hf⟩ := tr_struct (P := Tryz.prog) Tryz.underlying37 h
  rw [cWd] at hl
  obtain ⟨m0, y0, t0, _⟩ := hf 0 _ rfl
  obtain ⟨m1, y1, t1, _⟩ := hf 1 _ rfl
  obtain ⟨m2, y2, t2, _⟩ := hf 2 _ rfl
  obtain ⟨m3, y3, t3, _⟩ := hf 3 _ rfl
  obtain ⟨m4, y4, t4, _⟩ := hf 4 _ rfl
  obtain ⟨m5, y5, t5, _⟩ := hf 5 _ rfl
  have t0 : TR enc Tryz.prog w m0 3 ((cs.drop 0).take (Tryz.prog.cellsOf 3)) y0 := t0
  have t1 : TR enc Tryz.prog w m1 25 ((cs.drop 1).take (Tryz.prog.cellsOf 25)) y1 := t1
  have t2 : TR enc Tryz.prog w m2 33 ((cs.drop 2).take (Tryz.prog.cellsOf 33)) y2 := t2
  have t3 : TR enc Tryz.prog w m3 9 ((cs.drop 34).take (Tryz.prog.cellsOf 9)) y3 := t3
  have t4 : TR enc Tryz.prog w m4 3 ((cs.drop 35).take (Tryz.prog.cellsOf 3)) y4 := t4
  have t5 : TR enc Tryz.prog w m5 35 ((cs.drop 36).take (Tryz.prog.cellsOf 35)) y5 := t5
  rw [cIn] at t0 t4
  rw [cU64] at t1
  rw [cDg] at t2
  rw [cSt] at t3
  rw [cLo] at t5
  obtain ⟨k, e0, _⟩ := tr_int (P := Tryz.prog) (k := .i64) Tryz.underlying3 t0
  obtain ⟨sq, e1, _⟩ := tr_int (P := Tryz.prog) (k := .u64) Tryz.underlying25 t1
  obtain ⟨d, e2, hdl⟩ := tr_dig t2
  obtain ⟨nm, e3, _⟩ := tr_string (P := Tryz.prog) Tryz.underlying9 t3
  obtain ⟨z, e4, _⟩ := tr_int (P := Tryz.prog) (k := .i64) Tryz.underlying3 t4
  obtain ⟨s, o, q, e5⟩ := tr_loc t5
  have hcs : cs = cs.drop 0 := rfl
  rw [cut 0 1, cut 1 1, cut 2 32, cut 34 1, cut 35 1, cut 36 3, e0, e1, e2, e3, e4, e5, List.drop_of_length_le (l := cs) (i := 36 + 3) (by omega)] at hcs
  exact ⟨⟨k, sq, d, nm, z, s, o, q⟩, hcs, hdl⟩
end Go.Proofs.YthcclmlbkfadcaaGreat
/- opening entries, and rows of them -/
namespace Go.Proofs.YthcclmlbkfadcaaGreat
open Go.GV Go.ChangeShapes Go.WideShapes Go.ChangeAt Go.RowKit
set_option linter.unusedVariables false
set_option linter.unusedSimpArgs false
theorem cEn : Tryz.prog.cellsOf 48 = 38 := by kernel_rfl
set_option maxRecDepth 100000 in
theorem tr_en {H : Type} {enc : TypeId × Value → H} {w : World} {fuel : Nat} {cs : List Value} {x : DataW H × List MemPlace} (h : TR enc Tryz.prog w fuel 48 cs x) : ∃ e : En, EnAt w cs e ∧ e.l.length ≤ Rows.uptoBulk x.1 := by
  obtain ⟨hl, ds, hd, hdl, hf⟩ := tr_struct (P := Tryz.prog) Tryz.underlying48 h
  rw [cEn] at hl
  obtain ⟨m0, y0, t0, _⟩ := hf 0 _ rfl
  obtain ⟨m1, y1, t1, _⟩ := hf 1 _ rfl
  obtain ⟨m2, y2, t2, _⟩ := hf 2 _ rfl
  obtain ⟨m3, y3, t3, _⟩ := hf 3 _ rfl
  obtain ⟨m4, y4, t4, b4⟩ := hf 4 _ rfl
  have t0 : TR enc Tryz.prog w m0 33 ((cs.drop 0).take (Tryz.prog.cellsOf 33)) y0 := t0
  have t1 : TR enc Tryz.prog w m1 3 ((cs.drop 32).take (Tryz.prog.cellsOf 3)) y1 := t1
  have t2 : TR enc Tryz.prog w m2 3 ((cs.drop 33).take (Tryz.prog.cellsOf 3)) y2 := t2
  have t3 : TR enc Tryz.prog w m3 35 ((cs.drop 34).take (Tryz.prog.cellsOf 35)) y3 := t3
  have t4 : TR enc Tryz.prog w m4 46 ((cs.drop 37).take (Tryz.prog.cellsOf 46)) y4 := t4
  rw [cDg] at t0
  rw [cIn] at t1 t2
  rw [cLo] at t3
  rw [cIs] at t4
  obtain ⟨d, e0, hdl⟩ := tr_dig t0
  obtain ⟨k, e1, _⟩ := tr_int (P := Tryz.prog) (k := .i64) Tryz.underlying3 t1
  obtain ⟨z, e2, _⟩ := tr_int (P := Tryz.prog) (k := .i64) Tryz.underlying3 t2
  obtain ⟨s, o, q, e3⟩ := tr_loc t3
  obtain ⟨A, n, c, l, e4, hs, hb⟩ := tr_ints t4
  have hcs : cs = cs.drop 0 := rfl
  rw [cut 0 32, cut 32 1, cut 33 1, cut 34 3, cut 37 1, e0, e1, e2, e3, e4, List.drop_of_length_le (l := cs) (i := 37 + 1) (by omega)] at hcs
  refine ⟨⟨d, k, z, s, o, q, l⟩, ⟨A, n, c, hcs, hs, hdl⟩, ?_⟩
  have h1 := part_at b4
  have h2 := sl_n hs
  rw [hd]
  simp only [Rows.uptoBulk]
  omega
theorem chunk_flatE {vss : List (List Value)} (hk : ∀ (i : Nat) (v : List Value), vss[i]? = some v → v.length = 38) {i : Nat} {v : List Value} (hi : vss[i]? = some v) : chunk vss.flatten i = v := by
  obtain ⟨h1, h2⟩ := flatten_get hk
  have hil := (List.getElem?_eq_some_iff.1 hi).1
  have hv := hk i v hi
  apply List.ext_getElem?
  intro j
  by_cases hj : j < 38
  · rw [chunk_get hj]
    exact h2 i v j hi hj
  · rw [List.getElem?_eq_none (l := v) (by omega), List.getElem?_eq_none]
    unfold chunk
    rw [List.length_take]; omega
set_option maxRecDepth 100000 in
theorem tr_ens {H : Type} {enc : TypeId × Value → H} {w : World} {fuel : Nat} {cs : List Value} {x : DataW H × List MemPlace} (h : TR enc Tryz.prog w fuel 26 cs x) :
    ∃ (A : Option Addr) (n c : Nat) (l : List En), cs = [Value.slice A n c] ∧ RE (fun _ => True) w A n l ∧ n ≤ Rows.uptoBulk x.1 ∧ BdE (Rows.uptoBulk x.1) l := by
  obtain ⟨A, n, c, vss, hcs, h1, h2, h3, h4, h5, h6⟩ := tr_slice (P := Tryz.prog) (e := 48) Tryz.underlying26 (by rw [cEn]; decide) h
  rw [cEn] at h4 h5
  rcases h6 with ⟨h7, rfl, rfl, rfl⟩ | ⟨es, sp, h7, h8, h9, h10⟩
  · exact ⟨none, 0, 0, [], hcs, RE.nil _ _ _, Nat.zero_le _, fun e he => by cases he⟩
  · obtain ⟨l, hll, hl⟩ := choose_list (R := fun (i : Nat) v (e : En) => EnAt w v e ∧ e.l.length ≤ Rows.uptoBulkAll es) vss (fun i v hi => by
      obtain ⟨m, y, hy, hey⟩ := h10 i v hi
      obtain ⟨e, he, hb⟩ := tr_en hy
      exact ⟨e, he, Nat.le_trans hb (part_at hey)⟩)
    have hat : ∀ (i : Nat) (e : En), l[i]? = some e → ∃ v, vss[i]? = some v ∧ EnAt w v e ∧ e.l.length ≤ Rows.uptoBulkAll es := fun i e hi => by
      have hil := (List.getElem?_eq_some_iff.1 hi).1
      have hg : vss[i]? = some (vss[i]'(by omega)) := List.getElem?_eq_getElem (by omega)
      obtain ⟨e', he', hr⟩ := hl i _ hg
      rw [hi] at he'
      injection he' with he'
      subst he'
      exact ⟨_, hg, hr⟩
    have hbulk : Rows.uptoBulkAll es ≤ Rows.uptoBulk x.1 := by rw [h7]; simp only [Rows.uptoBulk]; omega
    refine ⟨A, n, c, l, hcs, ⟨_, h5, ?_, fun i e hi => ?_⟩, ?_, fun e he => ?_⟩
    · rw [(flatten_get h4).1]; omega
    · obtain ⟨v, hv, ⟨A, n, c, e1, e2, e3⟩, _⟩ := hat i e hi
      rw [chunk_flatE h4 hv]
      exact ⟨A, n, c, e1, e2, e3, fun _ _ _ => trivial⟩
    · have := length_le es
      omega
    · obtain ⟨i, hi⟩ := List.mem_iff_getElem?.1 he
      obtain ⟨_, _, _, hb⟩ := hat i e hi
      omega
end Go.Proofs.YthcclmlbkfadcaaGreat
/- opening names entries -/
namespace Go.Proofs.YthcclmlbkfadcaaGreat.Tg
open Go.GV Go.ChangeShapes Go.WideShapes Go.ChangeAt Go.RowKit
set_option linter.unusedVariables false
set_option linter.unusedSimpArgs false
theorem cTn : Tryz.prog.cellsOf 53 = 38 := by kernel_rfl
set_option maxRecDepth 100000 in
theorem tr_tn {H : Type} {enc : TypeId × Value → H} {w : World} {fuel : Nat} {cs : List Value} {x : DataW H × List MemPlace} (h : TR enc Tryz.prog w fuel 53 cs x) : ∃ e : Tn, TnAt w cs e ∧ e.l.length ≤ Rows.uptoBulk x.1 := by
  obtain ⟨hl, ds, hd, hdl, hf⟩ := tr_struct (P := Tryz.prog) Tryz.underlying53 h
  rw [cTn] at hl
  obtain ⟨m0, y0, t0, _⟩ := hf 0 _ rfl
  obtain ⟨m1, y1, t1, _⟩ := hf 1 _ rfl
  obtain ⟨m2, y2, t2, _⟩ := hf 2 _ rfl
  obtain ⟨m3, y3, t3, _⟩ := hf 3 _ rfl
  obtain ⟨m4, y4, t4, b4⟩ := hf 4 _ rfl
  have t0 : TR enc Tryz.prog w m0 9 ((cs.drop 0).take (Tryz.prog.cellsOf 9)) y0 := t0
  have t1 : TR enc Tryz.prog w m1 33 ((cs.drop 1).take (Tryz.prog.cellsOf 33)) y1 := t1
  have t2 : TR enc Tryz.prog w m2 4 ((cs.drop 33).take (Tryz.prog.cellsOf 4)) y2 := t2
  have t3 : TR enc Tryz.prog w m3 35 ((cs.drop 34).take (Tryz.prog.cellsOf 35)) y3 := t3
  have t4 : TR enc Tryz.prog w m4 46 ((cs.drop 37).take (Tryz.prog.cellsOf 46)) y4 := t4
  rw [cSt] at t0
  rw [cDg] at t1
  rw [cBo] at t2
  rw [cLo] at t3
  rw [cIs] at t4
  obtain ⟨nm, e0, _⟩ := tr_string (P := Tryz.prog) Tryz.underlying9 t0
  obtain ⟨d, e1, hdl⟩ := tr_dig t1
  obtain ⟨g, e2, _⟩ := tr_bool (P := Tryz.prog) Tryz.underlying4 t2
  obtain ⟨s, o, q, e3⟩ := tr_loc t3
  obtain ⟨A, n, c, l, e4, hs, hb⟩ := tr_ints t4
  have hcs : cs = cs.drop 0 := rfl
  rw [cut 0 1, cut 1 32, cut 33 1, cut 34 3, cut 37 1, e0, e1, e2, e3, e4, List.drop_of_length_le (l := cs) (i := 37 + 1) (by omega)] at hcs
  refine ⟨⟨nm, d, g, s, o, q, l⟩, ⟨A, n, c, hcs, hs, hdl⟩, ?_⟩
  have h1 := part_at b4
  have h2 := sl_n hs
  rw [hd]
  simp only [Rows.uptoBulk]
  omega
end Go.Proofs.YthcclmlbkfadcaaGreat.Tg
/- chapter 22: opening snapshots, deeds, words -/
namespace Go.Proofs.YthcclmlbkfadcaaGreat
open Go.GV Go.ChangeShapes Go.WideShapes Go.ChangeAt Go.RowKit
open Tg (Tn)
set_option linter.unusedVariables false
set_option linter.unusedSimpArgs false
theorem wr_wf {n : Int} (h : (Lit.int .i64 n).wf = true) : wr n = n := by
  simp [Lit.wf, IntKind.min, IntKind.max, IntKind.signed, IntKind.bits] at h
  unfold wr
  simp [IntKind.wrap, IntKind.min, IntKind.max, IntKind.signed, IntKind.bits]
  (try split) <;> omega
set_option maxRecDepth 100000 in
theorem tr_locq {H : Type} {enc : TypeId × Value → H} {w : World} {fuel : Nat} {s o q : Int} {x : DataW H × List MemPlace} (h : TR enc Tryz.prog w fuel 35 [.int .i64 s, .int .i64 o, .int .i64 q] x) : wr q = q := by
  obtain ⟨hl, ds, hd, hdl, hf⟩ := tr_struct (P := Tryz.prog) Tryz.underlying35 h
  obtain ⟨m2, y2, t2, _⟩ := hf 2 _ rfl
  have t2 : TR enc Tryz.prog w m2 3 (([Value.int .i64 s, .int .i64 o, .int .i64 q].drop 2).take (Tryz.prog.cellsOf 3)) y2 := t2
  simp only [cIn, List.drop_zero, List.drop_succ_cons, List.take_succ_cons, List.take_zero] at t2
  obtain ⟨n2, e2, hw, _⟩ := tr_int (P := Tryz.prog) (k := .i64) Tryz.underlying3 t2
  simp only [List.cons.injEq, and_true] at e2
  injection e2 with _ e2
  subst e2
  exact wr_wf hw
set_option maxRecDepth 100000 in
theorem tr_wdq {H : Type} {enc : TypeId × Value → H} {w : World} {fuel : Nat} {cs : List Value} {x : DataW H × List MemPlace} (h : TR enc Tryz.prog w fuel 37 cs x) : ∃ e : Wd, cs = e.cs ∧ e.d.length = 32 ∧ wr e.q = e.q := by
  obtain ⟨e, rfl, hx⟩ := tr_wd h
  obtain ⟨hl, ds, hd, hdl, hf⟩ := tr_struct (P := Tryz.prog) Tryz.underlying37 h
  obtain ⟨m5, y5, t5, _⟩ := hf 5 _ rfl
  have t5 : TR enc Tryz.prog w m5 35 ((e.cs.drop 36).take (Tryz.prog.cellsOf 35)) y5 := t5
  rw [cLo] at t5
  have : (e.cs.drop 36).take 3 = [.int .i64 e.s, .int .i64 e.o, .int .i64 e.q] := by
    unfold Wd.cs
    rw [List.drop_append, List.drop_of_length_le (by simp), List.nil_append, List.drop_append, List.drop_of_length_le (by simp [hx]), List.nil_append]
    simp [hx]
  rw [this] at t5
  exact ⟨e, rfl, hx, tr_locq t5⟩
theorem cDd : Tryz.prog.cellsOf 74 = 41 := by kernel_rfl
set_option maxRecDepth 100000 in
theorem tr_ddq {H : Type} {enc : TypeId × Value → H} {w : World} {fuel : Nat} {cs : List Value} {x : DataW H × List MemPlace} (h : TR enc Tryz.prog w fuel 74 cs x) (hb : Rows.uptoBulk x.1 ≤ 1048576) : ∃ d : Dd, DdAt w cs d ∧ wr d.x.q = d.x.q := by
  obtain ⟨hl, ds, hd, hdl, hf⟩ := tr_struct (P := Tryz.prog) Tryz.underlying74 h
  rw [cDd] at hl
  obtain ⟨m0, y0, t0, _⟩ := hf 0 _ rfl
  obtain ⟨m1, y1, t1, _⟩ := hf 1 _ rfl
  obtain ⟨m2, y2, t2, b2⟩ := hf 2 _ rfl
  have t0 : TR enc Tryz.prog w m0 3 ((cs.drop 0).take (Tryz.prog.cellsOf 3)) y0 := t0
  have t1 : TR enc Tryz.prog w m1 37 ((cs.drop 1).take (Tryz.prog.cellsOf 37)) y1 := t1
  have t2 : TR enc Tryz.prog w m2 46 ((cs.drop 40).take (Tryz.prog.cellsOf 46)) y2 := t2
  rw [cIn] at t0
  rw [cWd] at t1
  rw [cIs] at t2
  obtain ⟨k, e0, _⟩ := tr_int (P := Tryz.prog) (k := .i64) Tryz.underlying3 t0
  obtain ⟨xw, e1, hx, hxq⟩ := tr_wdq t1
  obtain ⟨A, n, c, l, e2, hs, hn⟩ := tr_ints t2
  have hcs : cs = cs.drop 0 := rfl
  rw [cut 0 1, cut 1 39, cut 40 1, e0, e1, e2, List.drop_of_length_le (l := cs) (i := 40 + 1) (by omega)] at hcs
  have h1 := part_at b2
  have : Rows.uptoBulkAll ds ≤ Rows.uptoBulk x.1 := by rw [hd]; simp only [Rows.uptoBulk]; omega
  exact ⟨⟨k, xw, l⟩, ⟨A, n, c, by simpa using hcs, hs, hx, by omega⟩, hxq⟩
set_option maxRecDepth 100000 in
theorem open_ddsq {H : Type} {enc : TypeId × Value → H} {w : World} {v : Value} {d : DataW H} {ps : List MemPlace} (hv : Value.okWide Tryz.prog w .any 0 72 v) (h : DataW.Trod enc Tryz.prog w 0 (fun _ => true) true 72 v d ps) (hb : Rows.uptoBulk d ≤ 1048576) :
    ∃ (A : Option Addr) (n c : Nat) (l : List Dd), v = Value.slice A n c ∧ DRow w A n l ∧ n ≤ Rows.uptoBulk d ∧ ∀ d ∈ l, wr d.x.q = d.x.q := by
  obtain ⟨fuel, ht⟩ := h
  obtain ⟨A, n, c, vss, hcs, h1, h2, h3, h4, h5, h6⟩ := tr_slice (P := Tryz.prog) (e := 74) Tryz.underlying72 (by rw [cDd]; decide) ht
  rw [cDd] at h4 h5
  have hve := slice_of_cells Tryz.underlying72 hv hcs
  rcases h6 with ⟨h7, rfl, rfl, rfl⟩ | ⟨es, sp, h7, h8, h9, h10⟩
  · exact ⟨none, 0, 0, [], hve, ⟨rfl, fun h => absurd rfl h⟩, Nat.zero_le _, fun d hd => by cases hd⟩
  · dsimp only at h7
    have hbulk : Rows.uptoBulkAll es ≤ Rows.uptoBulk d := by rw [h7]; simp only [Rows.uptoBulk]; omega
    obtain ⟨l, hll, hl⟩ := choose_list (R := fun (i : Nat) v (e : Dd) => DdAt w v e ∧ wr e.x.q = e.x.q) vss (fun i v hi => by
      obtain ⟨m, y, hy, hey⟩ := h10 i v hi
      exact tr_ddq hy (by have := part_at hey; omega))
    obtain ⟨hf1, hf2⟩ := flatten_get h4
    refine ⟨A, n, c, l, hve, ⟨by omega, fun h0 => ?_⟩, ?_, fun d hd => ?_⟩
    · obtain ⟨b, o, hA, hc⟩ := h5.2 h0
      refine ⟨b, o, hA, fun i e hi => ?_⟩
      have hil := (List.getElem?_eq_some_iff.1 hi).1
      have hg : vss[i]? = some (vss[i]'(by omega)) := List.getElem?_eq_getElem (by omega)
      obtain ⟨e', he', hr⟩ := hl i _ hg
      rw [hi] at he'
      injection he' with he'
      subst he'
      refine ⟨_, hr.1, fun j v hj => ?_⟩
      have hj41 : j < 41 := by have := (List.getElem?_eq_some_iff.1 hj).1; rw [h4 i _ hg] at this; exact this
      rw [Nat.add_assoc]
      exact hc _ v (by rw [hf2 i _ j hg hj41]; exact hj)
    · have := length_le es
      omega
    · obtain ⟨i, hi⟩ := List.mem_iff_getElem?.1 hd
      have hil := (List.getElem?_eq_some_iff.1 hi).1
      have hg : vss[i]? = some (vss[i]'(by omega)) := List.getElem?_eq_getElem (by omega)
      obtain ⟨e', he', hr⟩ := hl i _ hg
      rw [hi] at he'
      injection he' with he'
      subst he'
      exact hr.2
theorem cLd : Tryz.prog.cellsOf 98 = 3 := by kernel_rfl
set_option maxRecDepth 100000 in
theorem tr_lo {H : Type} {enc : TypeId × Value → H} {w : World} {fuel : Nat} {cs : List Value} {x : DataW H × List MemPlace} (h : TR enc Tryz.prog w fuel 98 cs x) : ∃ y : Lo, cs = encL y ∧ wr y.a = y.a := by
  obtain ⟨hl, ds, hd, hdl, hf⟩ := tr_struct (P := Tryz.prog) Tryz.underlying98 h
  rw [cLd] at hl
  obtain ⟨m0, y0, t0, _⟩ := hf 0 _ rfl
  obtain ⟨m1, y1, t1, _⟩ := hf 1 _ rfl
  obtain ⟨m2, y2, t2, _⟩ := hf 2 _ rfl
  match cs, hl with
  | [x0, x1, x2], _ =>
    have t0 : TR enc Tryz.prog w m0 3 (([x0, x1, x2].drop 0).take (Tryz.prog.cellsOf 3)) y0 := t0
    have t1 : TR enc Tryz.prog w m1 3 (([x0, x1, x2].drop 1).take (Tryz.prog.cellsOf 3)) y1 := t1
    have t2 : TR enc Tryz.prog w m2 3 (([x0, x1, x2].drop 2).take (Tryz.prog.cellsOf 3)) y2 := t2
    simp only [cIn, List.drop_zero, List.drop_succ_cons, List.take_succ_cons, List.take_zero] at t0 t1 t2
    obtain ⟨n0, e0, _⟩ := tr_int (P := Tryz.prog) (k := .i64) Tryz.underlying3 t0
    obtain ⟨n1, e1, hw, _⟩ := tr_int (P := Tryz.prog) (k := .i64) Tryz.underlying3 t1
    obtain ⟨n2, e2, _⟩ := tr_int (P := Tryz.prog) (k := .i64) Tryz.underlying3 t2
    simp only [List.cons.injEq, and_true] at e0 e1 e2
    subst e0; subst e1; subst e2
    exact ⟨⟨n0, n1, n2⟩, rfl, wr_wf hw⟩
theorem flat_los : ∀ r : List Lo, (r.map encL).flatten = flt encL r
  | [] => rfl
  | a :: b => by
    rw [List.map_cons, List.flatten_cons, flat_los b, flt_cons]
theorem tr_los {H : Type} {enc : TypeId × Value → H} {w : World} {fuel : Nat} {cs : List Value} {x : DataW H × List MemPlace} (h : TR enc Tryz.prog w fuel 28 cs x) :
    ∃ (A : Option Addr) (n c : Nat) (l : List Lo), cs = [Value.slice A n c] ∧ Sl w 3 A n (flt encL l) ∧ l.length = n ∧ n ≤ Rows.uptoBulk x.1 ∧ ∀ y ∈ l, wr y.a = y.a := by
  obtain ⟨A, n, c, vss, hcs, h1, h2, h3, h4, h5, h6⟩ := tr_slice (P := Tryz.prog) (e := 98) Tryz.underlying28 (by rw [cLd]; decide) h
  rcases h6 with ⟨h7, rfl, rfl, rfl⟩ | ⟨es, sp, h7, h8, h9, h10⟩
  · exact ⟨none, 0, 0, [], hcs, Sl.nil _ _ _, rfl, Nat.zero_le _, fun y hy => by cases hy⟩
  · obtain ⟨r, hrl, hr⟩ := choose_list (R := fun _ v (y : Lo) => v = encL y ∧ wr y.a = y.a) vss (fun i v hi => by
      obtain ⟨m, y, hy, _⟩ := h10 i v hi
      exact tr_lo hy)
    have hv : vss = r.map encL := by
      apply List.ext_getElem?
      intro i
      by_cases hi : i < vss.length
      · obtain ⟨y, hl, hl2⟩ := hr i _ (List.getElem?_eq_getElem hi)
        rw [List.getElem?_map, hl, List.getElem?_eq_getElem hi, hl2.1]; rfl
      · rw [List.getElem?_eq_none (by omega), List.getElem?_eq_none (by simp; omega)]
    rw [cLd, hv, flat_los] at h5
    refine ⟨A, n, c, r, hcs, h5, by omega, ?_, fun y hy => ?_⟩
    · rw [h7]
      have := length_le es
      simp only [Rows.uptoBulk]
      omega
    · obtain ⟨i, hi⟩ := List.mem_iff_getElem?.1 hy
      have hil := (List.getElem?_eq_some_iff.1 hi).1
      obtain ⟨y', hl, hl2⟩ := hr i _ (List.getElem?_eq_getElem (l := vss) (by omega))
      rw [hi] at hl
      injection hl with hl
      subst hl
      exact hl2.2
set_option maxRecDepth 100000 in
theorem tr_tns {H : Type} {enc : TypeId × Value → H} {w : World} {fuel : Nat} {cs : List Value} {x : DataW H × List MemPlace} (h : TR enc Tryz.prog w fuel 27 cs x) :
    ∃ (A : Option Addr) (n c : Nat) (l : List Tn), cs = [Value.slice A n c] ∧ Tg.RT (fun _ => True) w A n l ∧ n ≤ Rows.uptoBulk x.1 ∧ Tg.Bd (Rows.uptoBulk x.1) l := by
  obtain ⟨A, n, c, vss, hcs, h1, h2, h3, h4, h5, h6⟩ := tr_slice (P := Tryz.prog) (e := 53) Tryz.underlying27 (by rw [Tg.cTn]; decide) h
  rw [Tg.cTn] at h4 h5
  rcases h6 with ⟨h7, rfl, rfl, rfl⟩ | ⟨es, sp, h7, h8, h9, h10⟩
  · exact ⟨none, 0, 0, [], hcs, Tg.RT.nil _ _ _, Nat.zero_le _, (fun e he => by cases he)⟩
  · obtain ⟨l, hll, hl⟩ := choose_list (R := fun (i : Nat) v (e : Tn) => Tg.TnAt w v e ∧ e.l.length ≤ Rows.uptoBulkAll es) vss (fun i v hi => by
      obtain ⟨m, y, hy, hey⟩ := h10 i v hi
      obtain ⟨e, he, hb⟩ := Tg.tr_tn hy
      exact ⟨e, he, Nat.le_trans hb (part_at hey)⟩)
    have hat : ∀ (i : Nat) (e : Tn), l[i]? = some e → ∃ v, vss[i]? = some v ∧ Tg.TnAt w v e ∧ e.l.length ≤ Rows.uptoBulkAll es := fun i e hi => by
      have hil := (List.getElem?_eq_some_iff.1 hi).1
      have hg : vss[i]? = some (vss[i]'(by omega)) := List.getElem?_eq_getElem (by omega)
      obtain ⟨e', he', hr⟩ := hl i _ hg
      rw [hi] at he'
      injection he' with he'
      subst he'
      exact ⟨_, hg, hr⟩
    have hbulk : Rows.uptoBulkAll es ≤ Rows.uptoBulk x.1 := by rw [h7]; simp only [Rows.uptoBulk]; omega
    refine ⟨A, n, c, l, hcs, ⟨_, h5, ?_, fun i e hi => ?_⟩, ?_, fun e he => ?_⟩
    · rw [(flatten_get h4).1]; omega
    · obtain ⟨v, hv, ⟨A, n, c, e1, e2, e3⟩, _⟩ := hat i e hi
      show Tg.TnP (fun _ => True) w (chunk vss.flatten i) e
      rw [chunk_flatE h4 hv]
      exact ⟨A, n, c, e1, e2, e3, fun _ _ _ => trivial⟩
    · have := length_le es
      omega
    · obtain ⟨i, hi⟩ := List.mem_iff_getElem?.1 he
      obtain ⟨_, _, _, hb⟩ := hat i e hi
      omega
theorem cSn : Tryz.prog.cellsOf 30 = 7 := by kernel_rfl
set_option maxRecDepth 100000 in
theorem open_sn {H : Type} {enc : TypeId × Value → H} {w : World} {b0 : Nat} {v : Value} {d : DataW H} {ps : List MemPlace} (hv : Value.okWide Tryz.prog w .any b0 30 v) (h : DataW.Trod enc Tryz.prog w 0 (fun _ => true) true 30 v d ps) (hb : Rows.uptoBulk d ≤ 1048576) :
    ∃ (cs : List Value) (E : List En) (T : List Tn) (Ls : List Lo), v = ofL cs ∧ SnAt w cs E T Ls ∧ E.length ≤ 1048576 ∧ T.length ≤ 1048576 ∧ Ls.length ≤ 1048576 ∧ BdE 1048576 E ∧ Tg.Bd 1048576 T ∧ ∀ y ∈ Ls, wr y.a = y.a := by
  obtain ⟨fuel, ht⟩ := h
  obtain ⟨cs, rfl, hcs⟩ := agg_of_struct Tryz.underlying30 hv
  rw [hcs] at ht
  obtain ⟨hl, ds, hd, hdl, hf⟩ := tr_struct (P := Tryz.prog) Tryz.underlying30 ht
  rw [cSn] at hl
  obtain ⟨m0, y0, t0, _⟩ := hf 0 _ rfl
  obtain ⟨m1, y1, t1, _⟩ := hf 1 _ rfl
  obtain ⟨m2, y2, t2, _⟩ := hf 2 _ rfl
  obtain ⟨m3, y3, t3, _⟩ := hf 3 _ rfl
  obtain ⟨m4, y4, t4, b4⟩ := hf 4 _ rfl
  obtain ⟨m5, y5, t5, b5⟩ := hf 5 _ rfl
  obtain ⟨m6, y6, t6, b6⟩ := hf 6 _ rfl
  match cs, hl with
  | [x0, x1, x2, x3, x4, x5, x6], _ =>
    have t0 : TR enc Tryz.prog w m0 3 (([x0, x1, x2, x3, x4, x5, x6].drop 0).take (Tryz.prog.cellsOf 3)) y0 := t0
    have t1 : TR enc Tryz.prog w m1 3 (([x0, x1, x2, x3, x4, x5, x6].drop 1).take (Tryz.prog.cellsOf 3)) y1 := t1
    have t2 : TR enc Tryz.prog w m2 3 (([x0, x1, x2, x3, x4, x5, x6].drop 2).take (Tryz.prog.cellsOf 3)) y2 := t2
    have t3 : TR enc Tryz.prog w m3 25 (([x0, x1, x2, x3, x4, x5, x6].drop 3).take (Tryz.prog.cellsOf 25)) y3 := t3
    have t4 : TR enc Tryz.prog w m4 26 [x4] y4 := t4
    have t5 : TR enc Tryz.prog w m5 27 [x5] y5 := t5
    have t6 : TR enc Tryz.prog w m6 28 [x6] y6 := t6
    simp only [cIn, cU64, List.drop_zero, List.drop_succ_cons, List.take_succ_cons, List.take_zero] at t0 t1 t2 t3
    obtain ⟨n0, e0, _⟩ := tr_int (P := Tryz.prog) (k := .i64) Tryz.underlying3 t0
    obtain ⟨n1, e1, _⟩ := tr_int (P := Tryz.prog) (k := .i64) Tryz.underlying3 t1
    obtain ⟨n2, e2, _⟩ := tr_int (P := Tryz.prog) (k := .i64) Tryz.underlying3 t2
    obtain ⟨n3, e3, _⟩ := tr_int (P := Tryz.prog) (k := .u64) Tryz.underlying25 t3
    obtain ⟨A, n, c, E, e4, r4, q4, d4⟩ := tr_ens t4
    obtain ⟨A', n', c', T, e5, r5, q5, d5⟩ := tr_tns t5
    obtain ⟨A'', n'', c'', Ls, e6, r6, l6, q6, d6⟩ := tr_los t6
    injection e0 with e0 _; injection e1 with e1 _; injection e2 with e2 _; injection e3 with e3 _; injection e4 with e4 _; injection e5 with e5 _; injection e6 with e6 _
    subst e0; subst e1; subst e2; subst e3; subst e4; subst e5; subst e6
    have p4 := part_at b4
    have p5 := part_at b5
    have p6 := part_at b6
    have : Rows.uptoBulkAll ds ≤ Rows.uptoBulk d := by dsimp only at hd; rw [hd]; simp only [Rows.uptoBulk]; omega
    have hEl := r4.len
    have hTl := r5.len
    exact ⟨_, E, T, Ls, rfl, ⟨n0, n1, n2, n3, A, n, c, A', n', c', A'', n'', c'', rfl, r4, r5, r6, l6⟩, by omega, by omega, by omega, d4.mono (by omega), fun e he => Nat.le_trans (d5 e he) (by omega), d6⟩
end Go.Proofs.YthcclmlbkfadcaaGreat
