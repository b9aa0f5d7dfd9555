import Derived.Test.YthcclmlbkfadcaaGreatRows
import Derived.WalkKit
import Derived.ProofKit
import Derived.OpenShut
import Derived.JoinedCond
import Derived.Test.YthcclmlbkfadcaaGreatP4
/- deeds: a kind, a word, segments; rows of them -/
namespace Go.Proofs.YthcclmlbkfadcaaGreat
open Go.GV Go.RowKit Go.Lib
set_option linter.unusedVariables false
set_option linter.unusedSimpArgs false
structure Dd where
  kind : Int
  x : Wd
  sg : List Int
def DdAt (w : World) (cs : List Value) (d : Dd) : Prop := ∃ S m k, cs = [Value.int .i64 d.kind] ++ (d.x.cs ++ [.slice S m k]) ∧ Sl w 1 S m (ivs d.sg) ∧ d.x.d.length = 32 ∧ m ≤ 1048576
theorem DdAt.fr {w w' : World} {cs : List Value} {d : Dd} (h : DdAt w cs d) (f : Fr (fun _ => False) w w') : DdAt w' cs d := by
  obtain ⟨S, m, k, h1, h2, h3, h4⟩ := h
  exact ⟨S, m, k, h1, sl_fr h2 f, h3, h4⟩
/-- a row of deeds -/
def DRow (w : World) (A : Option Addr) (n : Nat) (l : List Dd) : Prop := l.length = n ∧ (n ≠ 0 → ∃ b o, A = some ⟨b, o, none⟩ ∧ ∀ (i : Nat) (d : Dd), l[i]? = some d → ∃ cs, DdAt w cs d ∧ cellsAt w b (o + i * 41) cs)
theorem DRow.fr {w w' : World} {A : Option Addr} {n : Nat} {l : List Dd} (h : DRow w A n l) (f : Fr (fun _ => False) w w') : DRow w' A n l := by
  refine ⟨h.1, fun h0 => ?_⟩
  obtain ⟨b, o, hA, hc⟩ := h.2 h0
  refine ⟨b, o, hA, fun i d hi => ?_⟩
  obtain ⟨cs, h1, h2⟩ := hc i d hi
  exact ⟨cs, h1.fr f, f.cells h2 (fun h => h)⟩
/-- rows of words -/
def WRow (w : World) (A : Option Addr) (n : Nat) (l : List Wd) : Prop := l.length = n ∧ (∀ x ∈ l, x.d.length = 32) ∧ (n ≠ 0 → ∃ b o, A = some ⟨b, o, none⟩ ∧ ∀ (i : Nat) (x : Wd), l[i]? = some x → cellsAt w b (o + i * 39) x.cs)
theorem WRow.fr {w w' : World} {A : Option Addr} {n : Nat} {l : List Wd} (h : WRow w A n l) (f : Fr (fun _ => False) w w') : WRow w' A n l := by
  refine ⟨h.1, h.2.1, fun h0 => ?_⟩
  obtain ⟨b, o, hA, hc⟩ := h.2.2 h0
  exact ⟨b, o, hA, fun i x hi => f.cells (hc i x hi) (fun h => h)⟩
end Go.Proofs.YthcclmlbkfadcaaGreat
/- chapter 22: what deeds come to -/
namespace Go.Proofs.YthcclmlbkfadcaaGreat
open Go.GV Go.RowKit Go.Lib Go.Stb
open Tg (Tn liveT)
set_option linter.unusedVariables false
set_option linter.unusedSimpArgs false
/-! ### a block without ints has no row of ints -/
def NoI (xs : List Value) : Prop := ∀ (o : Nat) (k : IntKind) (x : Int), xs[o]? ≠ some (.int k x)
theorem sl_nb {w : World} {A : Option Addr} {n : Nat} {l : List Int} {b : Nat} {t : TypeId} {xs : List Value} (h : Sl w 1 A n (ivs l)) (r : RecAt w b t xs) (hx : NoI xs) (h0 : n ≠ 0) {k : Nat} (hk : blkOf A = some k) : k ≠ b := by
  rintro rfl
  have hl := sl_n h
  obtain ⟨b', o, rfl, hc⟩ := h.2 h0
  injection hk with hk
  have hk : b' = k := hk
  subst hk
  have gi : l[0]? = some (l[0]'(by omega)) := List.getElem?_eq_getElem (by omega)
  have := hc 0 _ (ivs_at gi)
  exact hx _ _ _ (r.get this)
theorem EnP.nb {P : Nat → Prop} {w : World} {cs : List Value} {e : En} {b : Nat} {t : TypeId} {xs : List Value} (h : EnP P w cs e) (r : RecAt w b t xs) (hx : NoI xs) : EnP (fun k => P k ∧ k ≠ b) w cs e := by
  obtain ⟨A, n, c, h1, h2, h3, h4⟩ := h
  exact ⟨A, n, c, h1, h2, h3, fun h0 k hk => ⟨h4 h0 k hk, sl_nb h2 r hx h0 hk⟩⟩
theorem TnP.nb {P : Nat → Prop} {w : World} {cs : List Value} {e : Tn} {b : Nat} {t : TypeId} {xs : List Value} (h : Tg.TnP P w cs e) (r : RecAt w b t xs) (hx : NoI xs) : Tg.TnP (fun k => P k ∧ k ≠ b) w cs e := by
  obtain ⟨A, n, c, h1, h2, h3, h4⟩ := h
  exact ⟨A, n, c, h1, h2, h3, fun h0 k hk => ⟨h4 h0 k hk, sl_nb h2 r hx h0 hk⟩⟩
theorem Ix.nb_ {X : Nat → Prop} {w : World} {base ib bt bs N p : Nat} {S : Slo.SRow} {l : List En} {b : Nat} {t : TypeId} {xs : List Value} (h : Ix X w base ib bt bs N p S l) (r : RecAt w b t xs) (hx : NoI xs) : Ix (fun k => X k ∧ k ≠ b) w base ib bt bs N p S l :=
  ⟨h.ri, h.tb, h.ba, h.nt, h.ns, fun k cs hk => by
    obtain ⟨e, h1, h2, h3⟩ := h.has k cs hk
    exact ⟨e, h1, h2, (h3.nb r hx).mono (fun j hj hh => ⟨hh.1.1, hh.1.2, hh.2⟩)⟩, h.all, h.asc, h.cn, h.nb⟩
theorem Tab.nb_ {X : Nat → Prop} {w : World} {base tb : Nat} {R : Option Addr} {n c : Nat} {l : List Tn} {b : Nat} {t : TypeId} {xs : List Value} (h : Tg.Tab X w base tb R n c l) (r : RecAt w b t xs) (hx : NoI xs) : Tg.Tab (fun k => X k ∧ k ≠ b) w base tb R n c l := by
  obtain ⟨vs, h1, h2⟩ := h.ot
  exact ⟨h.rc, ⟨vs, h1, ⟨h2.len, fun i e hi => (TnP.nb (h2.at_ i e hi) r hx).mono (fun j hj hh => ⟨hh.1.1, hh.1.2.1, hh.1.2.2, hh.2⟩)⟩⟩, h.ne, h.ba⟩
/-- a block that is not a state's, and has no ints, may change -/
theorem Sta.off {u u' : World} {B sb : Nat} {d : SD} (h : Sta u B sb d) {b : Nat} {t : TypeId} {xs : List Value} (r : RecAt u b t xs) (hx : NoI xs) (hb : ¬ d.D sb b) (f : Fr (fun k => k = b) u u') : Sta u' B sb d := by
  refine ⟨h.rs.fr f (fun e => hb (.inl e.symm)), h.ba, ?_, ?_, h.ta, f.row h.ld (fun k hk e => hb (.inr (.inr (.inr (by rw [← show k = b from e]; exact hk))))), h.ll, h.la, h.lz, h.s1, h.s2, h.s3, h.it, h.il, h.tl, (fun k hk => Nat.lt_of_lt_of_le (h.zb k hk) f.size)⟩
  · exact ((Ix.nb_ h.ix r hx).off f (fun k hk e => hb (.inr (.inl (by rw [← show k = b from e]; exact hk)))) (fun k hk e => hk.2 e)).monoX (fun k _ hk => hk.1)
  · exact ((Tab.nb_ h.tg r hx).off f (fun k hk e => hb (.inr (.inr (.inl (by rw [← show k = b from e]; exact hk))))) (fun k hk e => hk.2 e)).monoX (fun k _ hk => hk.1)
theorem noI3 {D : Nat → Prop} {w : World} {cs : List Value} {E : List En} {T : List Tn} {Ls : List Lo} (h : RSt D w cs E T Ls) : NoI cs := by
  obtain ⟨A, n, c, A', n', c', A'', n'', c'', e, _⟩ := h
  subst e
  intro o k x
  match o with
  | 0 => simp
  | 1 => simp
  | 2 => simp
  | o + 3 => simp
/-! ### where the deeds stand -/
structure StS (w : World) (B i sb b11 : Nat) (u : World) (d : SD) (cs : List Value) : Prop where
  fr : Fr (fun _ => False) w u
  st : Sta u B sb d
  rc : RecAt u b11 44 cs
  rd : RSt (fun k => d.D sb k ∨ k = b11) u cs d.lE d.lT d.lL
  nb : ¬ d.D sb b11
  wb : w.heap.size ≤ b11
  bd : SB (1048576 + i) d
theorem StS.fr0 {w : World} {B i sb b11 : Nat} {u u' : World} {d : SD} {cs : List Value} (h : StS w B i sb b11 u d cs) (f : Fr (fun _ => False) u u') : StS w B i sb b11 u' d cs :=
  ⟨h.fr.trans1 f, h.st.fr0 f, h.rc.fr f (fun h => h), h.rd.fr0 f, h.nb, h.wb, h.bd⟩
theorem StS.lt {w : World} {B i sb b11 : Nat} {u : World} {d : SD} {cs : List Value} (h : StS w B i sb b11 u d cs) : ∀ k, d.D sb k ∨ k = b11 → k < u.heap.size := fun k hk => hk.elim (fun h' => (h.st.lt h').2) (fun e => by rw [e]; exact h.rc.lt)
theorem SB.two {m : Nat} {d : SD} (h : SB m d) (hm : m ≤ 50000000) : SB2 d.lE d.lT d.lL :=
  ⟨h.e.mono (by omega), fun e he => Nat.le_trans (h.t e he) (by omega), Nat.le_trans h.el (by omega), Nat.le_trans h.tl (by omega), Nat.le_trans h.ll (by omega)⟩
/-- behind the program's deed, ahead of the document's -/
structure Mid (w : World) (B i sb b11 : Nat) (u : World) (d d' : SD) (cs : List Value) : Prop where
  fr : Fr (fun _ => False) w u
  st : Sta u B sb d'
  rc : RecAt u b11 44 cs
  rd : RSt (fun k => d'.D sb k ∨ k = b11) u cs d.lE d.lT d.lL
  nb : ¬ d'.D sb b11
  wb : w.heap.size ≤ b11
theorem StS.mid {w : World} {B i sb b11 : Nat} {u u' : World} {d d' : SD} {cs : List Value} (h : StS w B i sb b11 u d cs) (s : Stp u u' B sb d d') (hB : w.heap.size ≤ B) : Mid w B i sb b11 u' d d' cs :=
  ⟨h.fr.trans s.fr (fun _ _ h => h) (fun k hk h' => by have := (h.st.lt h').1; omega), s.st, h.rc.fr s.fr h.nb, h.rd.step (s.fr.mono (fun k _ hk => .inl hk)) (fun k hk => hk.elim (fun h' => (s.up k h').imp .inl id) (fun e => .inl (.inr e))), fun h' => (s.up _ h').elim h.nb (fun h2 => by have := h.rc.lt; omega), h.wb⟩
theorem Mid.lt {w : World} {B i sb b11 : Nat} {u : World} {d d' : SD} {cs : List Value} (h : Mid w B i sb b11 u d d' cs) : ∀ k, d'.D sb k ∨ k = b11 → k < u.heap.size := fun k hk => hk.elim (fun h' => (h.st.lt h').2) (fun e => by rw [e]; exact h.rc.lt)
/-- the document's state behind it is put into its variable -/
theorem Mid.put {w : World} {B i j sb b11 : Nat} {u v : World} {d d' : SD} {cs cs' : List Value} {K : World → Prop} (h : Mid w B i sb b11 u d d' cs) (f : Fr (fun _ => False) u v) (rd : RSt (fun k => d'.D sb k ∨ k = b11) v cs' d'.lE d'.lT d'.lL) (hb : SB (1048576 + j) d')
    (hK : ∀ y, StS w B j sb b11 y d' cs' → Fr (fun k => k = b11) v y → K y) : gd (cs'.length == 3) (Go.GV.st v b11 0 cs' K) := by
  have hl := h.rd.len
  have hl' := rd.len
  have r := h.rc.fr f (fun h => h)
  refine gd_mk (by rw [hl']; rfl) (r.st_mk (o := 0) (by rw [hl', hl]; omega) rd.one (fun r2 f2 => hK _ ⟨fr_own (h.fr.trans1 f) f2 h.wb, (h.st.fr0 f).off r (noI3 h.rd) h.nb f2, ?_, rd.step (f2.mono (fun k _ e => .inr e)) (fun k hk => .inl hk), h.nb, h.wb, hb⟩ f2))
  rw [splice_full (by rw [hl', hl])] at r2
  exact r2
end Go.Proofs.YthcclmlbkfadcaaGreat
/- For the closings: what the bound gives. -/
namespace Go.Proofs.YthcclmlbkfadcaaGreat
open Go.GV Go.ChangeShapes Go.WideShapes Go.ChangeAt Go.RowKit
set_option linter.unusedVariables false
theorem own : ownKnob Tryz.prog.godebug = none := by kernel_rfl
theorem laid : laidOutB Tryz.prog = true := by kernel_rfl
theorem small {H : Type} {l : List (DataW H)} (hk : Rows.uptoSmall H l = true) : Rows.uptoBulkAll l ≤ 1048576 := of_decide_eq_true hk
theorem one_le {H : Type} (d : DataW H) : 1 ≤ Rows.uptoBulk d := by
  cases d with
  | lit l => cases l <;> simp [Rows.uptoBulk]
  | nil => simp [Rows.uptoBulk]
  | ptr d => simp [Rows.uptoBulk]
  | slice elems spare => simp [Rows.uptoBulk]
  | agg parts => simp [Rows.uptoBulk]
  | iface t d => simp [Rows.uptoBulk]
  | map entries => simp [Rows.uptoBulk]
  | held h => simp [Rows.uptoBulk]
theorem length_le {H : Type} (l : List (DataW H)) : l.length ≤ Rows.uptoBulkAll l := by
  induction l with
  | nil => simp [Rows.uptoBulkAll]
  | cons x r ih => have := one_le x; simp only [Rows.uptoBulkAll, List.length_cons]; omega
end Go.Proofs.YthcclmlbkfadcaaGreat
/- opening words and rows of ints -/
namespace Go.Proofs.YthcclmlbkfadcaaGreat
open Go.GV Go.ChangeShapes Go.WideShapes Go.ChangeAt Go.RowKit
set_option linter.unusedVariables false
set_option linter.unusedSimpArgs false
theorem cDg : Tryz.prog.cellsOf 33 = 32 := by kernel_rfl
theorem cU8 : Tryz.prog.cellsOf 5 = 1 := by kernel_rfl
theorem cIn : Tryz.prog.cellsOf 3 = 1 := by kernel_rfl
theorem cU64 : Tryz.prog.cellsOf 25 = 1 := by kernel_rfl
theorem cSt : Tryz.prog.cellsOf 9 = 1 := by kernel_rfl
theorem cLo : Tryz.prog.cellsOf 35 = 3 := by kernel_rfl
theorem cWd : Tryz.prog.cellsOf 37 = 39 := by kernel_rfl
theorem cut {cs : List Value} (o k : Nat) : cs.drop o = (cs.drop o).take k ++ cs.drop (o + k) := by
  rw [← List.drop_drop]; exact (List.take_append_drop k _).symm
set_option maxRecDepth 100000 in
theorem tr_loc {H : Type} {enc : TypeId × Value → H} {w : World} {fuel : Nat} {cs : List Value} {x : DataW H × List MemPlace} (h : TR enc Tryz.prog w fuel 35 cs x) : ∃ s o q : Int, cs = [.int .i64 s, .int .i64 o, .int .i64 q] := by
  obtain ⟨hl, ds, hd, hdl, hf⟩ := tr_struct (P := Tryz.prog) Tryz.underlying35 h
  rw [cLo] at hl
  obtain ⟨m0, y0, t0, _⟩ := hf 0 _ rfl
  obtain ⟨m1, y1, t1, _⟩ := hf 1 _ rfl
  obtain ⟨m2, y2, t2, _⟩ := hf 2 _ rfl
  match cs, hl with
  | [x0, x1, x2], _ =>
    have t0 : TR enc Tryz.prog w m0 3 (([x0, x1, x2].drop 0).take (Tryz.prog.cellsOf 3)) y0 := t0
    have t1 : TR enc Tryz.prog w m1 3 (([x0, x1, x2].drop 1).take (Tryz.prog.cellsOf 3)) y1 := t1
    have t2 : TR enc Tryz.prog w m2 3 (([x0, x1, x2].drop 2).take (Tryz.prog.cellsOf 3)) y2 := t2
    simp only [cIn, List.drop_zero, List.drop_succ_cons, List.take_succ_cons, List.take_zero] at t0 t1 t2
    obtain ⟨n0, e0, _⟩ := tr_int (P := Tryz.prog) (k := .i64) Tryz.underlying3 t0
    obtain ⟨n1, e1, _⟩ := tr_int (P := Tryz.prog) (k := .i64) Tryz.underlying3 t1
    obtain ⟨n2, e2, _⟩ := tr_int (P := Tryz.prog) (k := .i64) Tryz.underlying3 t2
    simp only [List.cons.injEq, and_true] at e0 e1 e2
    subst e0; subst e1; subst e2
    exact ⟨n0, n1, n2, rfl⟩
theorem tr_dig {H : Type} {enc : TypeId × Value → H} {w : World} {fuel : Nat} {cs : List Value} {x : DataW H × List MemPlace} (h : TR enc Tryz.prog w fuel 33 cs x) : ∃ l : List UInt8, cs = l.map bv ∧ l.length = 32 :=
  tr_byteArray (P := Tryz.prog) Tryz.underlying33 Tryz.underlying5 cU8 cDg h
set_option maxRecDepth 100000 in
theorem tr_wd {H : Type} {enc : TypeId × Value → H} {w : World} {fuel : Nat} {cs : List Value} {x : DataW H × List MemPlace} (h : TR enc Tryz.prog w fuel 37 cs x) : ∃ e : Wd, cs = e.cs ∧ e.d.length = 32 := by
  obtain ⟨hl, ds, hd, hdl, hf⟩ := tr_struct (P := Tryz.prog) Tryz.underlying37 h
  rw [cWd] at hl
  obtain ⟨m0, y0, t0, _⟩ := hf 0 _ rfl
  obtain ⟨m1, y1, t1, _⟩ := hf 1 _ rfl
  obtain ⟨m2, y2, t2, _⟩ := hf 2 _ rfl
  obtain ⟨m3, y3, t3, _⟩ := hf 3 _ rfl
  obtain ⟨m4, y4, t4, _⟩ := hf 4 _ rfl
  obtain ⟨m5, y5, t5, _⟩ := hf 5 _ rfl
  have t0 : TR enc Tryz.prog w m0 3 ((cs.drop 0).take (Tryz.prog.cellsOf 3)) y0 := t0
  have t1 : TR enc Tryz.prog w m1 25 ((cs.drop 1).take (Tryz.prog.cellsOf 25)) y1 := t1
  have t2 : TR enc Tryz.prog w m2 33 ((cs.drop 2).take (Tryz.prog.cellsOf 33)) y2 := t2
  have t3 : TR enc Tryz.prog w m3 9 ((cs.drop 34).take (Tryz.prog.cellsOf 9)) y3 := t3
  have t4 : TR enc Tryz.prog w m4 3 ((cs.drop 35).take (Tryz.prog.cellsOf 3)) y4 := t4
  have t5 : TR enc Tryz.prog w m5 35 ((cs.drop 36).take (Tryz.prog.cellsOf 35)) y5 := t5
  rw [cIn] at t0 t4
  rw [cU64] at t1
  rw [cDg] at t2
  rw [cSt] at t3
  rw [cLo] at t5
  obtain ⟨k, e0, _⟩ := tr_int (P := Tryz.prog) (k := .i64) Tryz.underlying3 t0
  obtain ⟨sq, e1, _⟩ := tr_int (P := Tryz.prog) (k := .u64) Tryz.underlying25 t1
  obtain ⟨d, e2, hdl⟩ := tr_dig t2
  obtain ⟨nm, e3, _⟩ := tr_string (P := Tryz.prog) Tryz.underlying9 t3
  obtain ⟨z, e4, _⟩ := tr_int (P := Tryz.prog) (k := .i64) Tryz.underlying3 t4
  obtain ⟨s, o, q, e5⟩ := tr_loc t5
  have hcs : cs = cs.drop 0 := rfl
  rw [cut 0 1, cut 1 1, cut 2 32, cut 34 1, cut 35 1, cut 36 3, e0, e1, e2, e3, e4, e5, List.drop_of_length_le (l := cs) (i := 36 + 3) (by omega)] at hcs
  exact ⟨⟨k, sq, d, nm, z, s, o, q⟩, hcs, hdl⟩
end Go.Proofs.YthcclmlbkfadcaaGreat
/- opening entries, and rows of them -/
namespace Go.Proofs.YthcclmlbkfadcaaGreat
open Go.GV Go.ChangeShapes Go.WideShapes Go.ChangeAt Go.RowKit
set_option linter.unusedVariables false
set_option linter.unusedSimpArgs false
end Go.Proofs.YthcclmlbkfadcaaGreat
/- opening names entries -/
namespace Go.Proofs.YthcclmlbkfadcaaGreat.Tg
open Go.GV Go.ChangeShapes Go.WideShapes Go.ChangeAt Go.RowKit
set_option linter.unusedVariables false
set_option linter.unusedSimpArgs false
end Go.Proofs.YthcclmlbkfadcaaGreat.Tg
/- chapter 22: opening snapshots, deeds, words -/
namespace Go.Proofs.YthcclmlbkfadcaaGreat
open Go.GV Go.ChangeShapes Go.WideShapes Go.ChangeAt Go.RowKit
open Tg (Tn)
set_option linter.unusedVariables false
set_option linter.unusedSimpArgs false
end Go.Proofs.YthcclmlbkfadcaaGreat
/- opening rows of words -/
namespace Go.Proofs.YthcclmlbkfadcaaGreat
open Go.GV Go.ChangeShapes Go.WideShapes Go.ChangeAt Go.RowKit
set_option linter.unusedVariables false
set_option linter.unusedSimpArgs false
set_option maxRecDepth 100000 in
theorem tr_wds {H : Type} {enc : TypeId × Value → H} {w : World} {fuel : Nat} {cs : List Value} {x : DataW H × List MemPlace} (h : TR enc Tryz.prog w fuel 22 cs x) :
    ∃ (A : Option Addr) (n c : Nat) (l : List Wd), cs = [Value.slice A n c] ∧ WRow w A n l ∧ n ≤ Rows.uptoBulk x.1 := by
  obtain ⟨A, n, c, vss, hcs, h1, h2, h3, h4, h5, h6⟩ := tr_slice (P := Tryz.prog) (e := 37) Tryz.underlying22 (by rw [cWd]; decide) h
  rw [cWd] at h4 h5
  rcases h6 with ⟨h7, rfl, rfl, rfl⟩ | ⟨es, sp, h7, h8, h9, h10⟩
  · exact ⟨none, 0, 0, [], hcs, ⟨rfl, (fun x hx => by cases hx), fun h => absurd rfl h⟩, Nat.zero_le _⟩
  · have hbulk : Rows.uptoBulkAll es ≤ Rows.uptoBulk x.1 := by rw [h7]; simp only [Rows.uptoBulk]; omega
    obtain ⟨l, hll, hl⟩ := choose_list (R := fun (i : Nat) v (e : Wd) => v = e.cs ∧ e.d.length = 32) vss (fun i v hi => by
      obtain ⟨m, y, hy, hey⟩ := h10 i v hi
      exact tr_wd hy)
    obtain ⟨hf1, hf2⟩ := flatten_get h4
    have hat : ∀ (i : Nat) (e : Wd), l[i]? = some e → vss[i]? = some e.cs ∧ e.d.length = 32 := fun i e hi => by
      have hil := (List.getElem?_eq_some_iff.1 hi).1
      have hg : vss[i]? = some (vss[i]'(by omega)) := List.getElem?_eq_getElem (by omega)
      obtain ⟨e', he', hr, hd⟩ := hl i _ hg
      rw [hi] at he'
      injection he' with he'
      subst he'
      exact ⟨by rw [hg, hr], hd⟩
    refine ⟨A, n, c, l, hcs, ⟨by omega, fun e he => ?_, fun h0 => ?_⟩, ?_⟩
    · obtain ⟨i, hi⟩ := List.mem_iff_getElem?.1 he
      exact (hat i e hi).2
    · obtain ⟨b, o, hA, hc⟩ := h5.2 h0
      refine ⟨b, o, hA, fun i e hi j v hj => ?_⟩
      obtain ⟨hg, hd⟩ := hat i e hi
      have hj39 : j < 39 := by have := (List.getElem?_eq_some_iff.1 hj).1; rw [h4 i _ hg] at this; exact this
      rw [Nat.add_assoc]
      exact hc _ v (by rw [hf2 i _ j hg hj39]; exact hj)
    · have := length_le es
      omega
set_option maxRecDepth 100000 in
theorem open_wds {H : Type} {enc : TypeId × Value → H} {w : World} {v : Value} {d : DataW H} {ps : List MemPlace} (hv : Value.okWide Tryz.prog w .any 0 22 v) (h : DataW.Trod enc Tryz.prog w 0 (fun _ => true) true 22 v d ps) :
    ∃ (A : Option Addr) (n c : Nat) (l : List Wd), v = Value.slice A n c ∧ WRow w A n l ∧ n ≤ Rows.uptoBulk d := by
  obtain ⟨fuel, ht⟩ := h
  obtain ⟨A, n, c, l, hcs, h1⟩ := tr_wds ht
  exact ⟨A, n, c, l, slice_of_cells Tryz.underlying22 hv hcs, h1⟩
end Go.Proofs.YthcclmlbkfadcaaGreat
/- chapter 22, plainly: what the words of the other segments come to (digests, loads) -/
namespace Go.Proofs.YthcclmlbkfadcaaGreat
open Go.GV Go.RowKit Go.Lib Go.Stb
open Tg (Tn liveT)
set_option linter.unusedVariables false
set_option linter.unusedSimpArgs false
/-! ### a row of entries is told by what each digest has -/
theorem getE_set {e : En} {l : List En} (ha : AscE l) (d : List UInt8) : getE d (setE e l) = if e.d = d then (e, true) else getE d l := by
  by_cases h : e.d = d
  · rw [if_pos h]; exact getE_of (setE_asc e ha) (setE_mem_self e l) h
  · rw [if_neg h]
    by_cases hb : (getE d l).2 = true
    · obtain ⟨hm, hd⟩ := getE_mem hb
      rw [getE_of (setE_asc e ha) (setE_keep e l _ hm (by rw [hd]; exact fun h' => h h'.symm)) hd, getE_of ha hm hd]
    · have hn : ∀ x ∈ l, x.d ≠ d := fun x hx hd => hb (by rw [getE_of ha hx hd])
      rw [getE_none hn, getE_none (fun x hx hd => (setE_only ha hx).elim (fun e' => h (by rw [← e']; exact hd)) (fun h' => hn x h'.1 hd))]
theorem digs_mem {l : List En} (ha : AscE l) (d : List UInt8) : d ∈ digsE l ↔ (getE d l).2 = true := by
  constructor
  · intro h
    obtain ⟨e, he, hd⟩ := List.mem_map.1 h
    rw [getE_of ha he hd]
  · intro h
    obtain ⟨hm, hd⟩ := getE_mem h
    exact List.mem_map.2 ⟨_, hm, hd⟩
theorem digs_back {l : List En} (ha : AscE l) : (digsE l).map (fun d => (getE d l).1) = l := by
  unfold digsE
  rw [List.map_map]
  refine (List.map_congr_left (g := id) (fun e he => ?_)).trans (List.map_id _)
  show (getE e.d l).1 = e
  rw [getE_of ha he rfl]
theorem getE_ext {a b : List En} (ha : AscE a) (hb : AscE b) (h : ∀ d, getE d a = getE d b) : a = b := by
  have e : digsE a = digsE b := asc_ext (digsE_asc ha) (digsE_asc hb) (fun d => by rw [digs_mem ha, digs_mem hb, h])
  rw [← digs_back ha, ← digs_back hb, e]
  exact List.map_congr_left (fun d _ => by rw [h])
theorem getE_keep {sg : List Int} {l : List En} (ha : AscE l) (d : List UInt8) : getE d (keepLE sg l) = if (getE d l).2 = true ∧ (keepE (getE d l).1 sg).2 = true then keepE (getE d l).1 sg else (zE, false) := by
  by_cases hb : (getE d l).2 = true
  · obtain ⟨hm, hd⟩ := getE_mem hb
    by_cases hk : (keepE (getE d l).1 sg).2 = true
    · rw [if_pos ⟨hb, hk⟩, getE_of (keepLE_asc sg ha) (e := (keepE (getE d l).1 sg).1) (List.mem_filterMap.2 ⟨_, hm, by rw [if_pos hk]⟩) (by rw [keepE_d hk, hd])]
      exact Prod.ext rfl hk.symm
    · rw [if_neg (fun h => hk h.2)]
      refine getE_none (fun x hx hxd => ?_)
      obtain ⟨y, hy, h2⟩ := List.mem_filterMap.1 hx
      split at h2
      · rename_i h3
        injection h2 with h2
        have : y = (getE d l).1 := asc_uniq ha hy hm (by rw [hd, ← keepE_d h3, h2, hxd])
        rw [this] at h3; exact hk h3
      · cases h2
  · rw [if_neg (fun h => hb h.1)]
    refine getE_none (fun x hx hxd => ?_)
    obtain ⟨y, hy, h2⟩ := List.mem_filterMap.1 hx
    split at h2
    · rename_i h3
      injection h2 with h2
      exact hb (by rw [getE_of ha hy (by rw [← keepE_d h3, h2, hxd])])
    · cases h2
/-- what a digest has behind a word -/
def stE (d : List UInt8) (o : En × Bool) (x : Wd) : En × Bool :=
  if (x.k = 1 ∨ x.k = 2) ∧ x.d = d then (putE o.1 x, true) else if x.k = 5 ∧ o.2 = true ∧ x.d = d then (delE o.1 x, true) else o
theorem getE_apply {l : List En} (ha : AscE l) (x : Wd) (d : List UInt8) : getE d (applyE l x) = stE d (getE d l) x := by
  by_cases h1 : x.k = 1 ∨ x.k = 2
  · rw [applyE, if_pos h1, getE_set ha]
    by_cases h2 : x.d = d
    · subst h2
      rw [if_pos (show (putE (getE x.d l).1 x).d = x.d from rfl), stE, if_pos ⟨h1, rfl⟩]
    · rw [if_neg (show ¬ (putE (getE x.d l).1 x).d = d from h2), stE, if_neg (fun h => h2 h.2), if_neg (fun h => h2 h.2.2)]
  · by_cases h2 : x.k = 5 ∧ (getE x.d l).2 = true
    · rw [applyE, if_neg h1, if_pos h2, getE_set ha]
      have hd : (delE (getE x.d l).1 x).d = x.d := (getE_mem h2.2).2
      by_cases h3 : x.d = d
      · subst h3; rw [if_pos hd, stE, if_neg (fun h => h1 h.1), if_pos ⟨h2.1, h2.2, rfl⟩]
      · rw [if_neg (by rw [hd]; exact h3), stE, if_neg (fun h => h1 h.1), if_neg (fun h => h3 h.2.2)]
    · rw [applyE, if_neg h1, if_neg h2, stE, if_neg (fun h => h1 h.1)]
      by_cases h3 : x.d = d
      · subst h3; rw [if_neg (fun h => h2 ⟨h.1, h.2.1⟩)]
      · rw [if_neg (fun h => h3 h.2.2)]
/-! ### all words, and those of the others -/
structure FgE (seg : Int) (sg : List Int) (d : List UInt8) (o p : En × Bool) : Prop where
  z : o.2 = false → o = (zE, false)
  pz : p.2 = false → p = (zE, false)
  pm : ∀ n, n ∈ p.1.l ↔ n ∈ o.1.l ∧ n ≠ seg
  pa : AscI p.1.l
  p2 : p.2 = true ↔ ∃ n, n ∈ o.1.l ∧ n ≠ seg
  od : o.2 = true → o.1.d = d
  pd : p.2 = true → p.1.d = d
  ol : ∀ n, n ∈ o.1.l → n ≠ seg → n ∈ sg
  os : o.2 = true → o.1.s ≠ seg → o.1.s ∈ sg
  sm : o.2 = true → o.1.s ≠ seg → p.2 = true → p.1.k = o.1.k ∧ p.1.z = o.1.z ∧ p.1.s = o.1.s ∧ p.1.o = o.1.o ∧ p.1.q = o.1.q
  dl : o.2 = true → o.1.s ≠ seg → p.2 = false → o.1.k = 5
theorem FgE.nil (seg : Int) (sg : List Int) (d : List UInt8) : FgE seg sg d (zE, false) (zE, false) :=
  ⟨fun _ => rfl, fun _ => rfl, fun n => by show n ∈ ([] : List Int) ↔ n ∈ ([] : List Int) ∧ _; simp, List.Pairwise.nil, ⟨(fun h => by cases h), fun ⟨n, h, _⟩ => by cases h⟩, (fun h => by cases h), (fun h => by cases h), (fun n h => by cases h), (fun h => by cases h), (fun h => by cases h), (fun h => by cases h)⟩
theorem FgE.no {seg : Int} {sg : List Int} {d : List UInt8} {o p : En × Bool} (h : FgE seg sg d o p) (h0 : o.2 = false) : p.2 = false := by
  cases hp : p.2 with
  | false => rfl
  | true =>
    obtain ⟨n, hn, _⟩ := h.p2.1 hp
    rw [h.z h0] at hn
    cases hn
theorem mem_put {l : List Int} {s n : Int} : n ∈ norm (l ++ [s]) ↔ n ∈ l ∨ n = s := by rw [norm_mem]; simp
theorem FgE.stepIn {seg : Int} {sg : List Int} {d : List UInt8} {o p : En × Bool} (h : FgE seg sg d o p) {x : Wd} (hx : x.s = seg) : FgE seg sg d (stE d o x) p := by
  unfold stE
  split
  · rename_i hk
    have hm : ∀ n, n ∈ (putE o.1 x).l ↔ n ∈ o.1.l ∨ n = x.s := fun n => mem_put
    have hs : (putE o.1 x).s = seg := hx
    refine ⟨(fun h => by cases h), h.pz, fun n => ?_, h.pa, ?_, fun _ => hk.2, h.pd, fun n hn hne => ?_, fun _ hne => absurd hs hne, fun _ hne => absurd hs hne, fun _ hne => absurd hs hne⟩
    · rw [h.pm]
      show _ ↔ n ∈ (putE o.1 x).l ∧ _
      rw [hm]
      exact ⟨fun ⟨a, b⟩ => ⟨.inl a, b⟩, fun ⟨a, b⟩ => ⟨a.elim id (fun e => absurd (e.trans hx) b), b⟩⟩
    · rw [h.p2]
      exact ⟨fun ⟨n, a, b⟩ => ⟨n, (hm n).2 (.inl a), b⟩, fun ⟨n, a, b⟩ => ⟨n, ((hm n).1 a).elim id (fun e => absurd (e.trans hx) b), b⟩⟩
    · exact h.ol n (((hm n).1 hn).elim id (fun e => absurd (e.trans hx) hne)) hne
  · split
    · rename_i _ hk
      have hm : ∀ n, n ∈ (delE o.1 x).l ↔ n ∈ o.1.l := fun n => norm_mem _ _
      have hs : (delE o.1 x).s = seg := hx
      refine ⟨(fun h => by cases h), h.pz, fun n => ?_, h.pa, ?_, fun _ => h.od hk.2.1, h.pd, fun n hn hne => h.ol n ((hm n).1 hn) hne, fun _ hne => absurd hs hne, fun _ hne => absurd hs hne, fun _ hne => absurd hs hne⟩
      · rw [h.pm]
        show _ ↔ n ∈ (delE o.1 x).l ∧ _
        rw [hm]
      · rw [h.p2]
        exact ⟨fun ⟨n, a, b⟩ => ⟨n, (hm n).2 a, b⟩, fun ⟨n, a, b⟩ => ⟨n, (hm n).1 a, b⟩⟩
    · exact h
theorem FgE.stepOut {seg : Int} {sg : List Int} {d : List UInt8} {o p : En × Bool} (h : FgE seg sg d o p) {x : Wd} (hx : x.s ≠ seg) (hg : x.s ∈ sg) : FgE seg sg d (stE d o x) (stE d p x) := by
  unfold stE
  by_cases hk : (x.k = 1 ∨ x.k = 2) ∧ x.d = d
  · rw [if_pos hk, if_pos hk]
    have hm : ∀ n, n ∈ (putE o.1 x).l ↔ n ∈ o.1.l ∨ n = x.s := fun n => mem_put
    have hmp : ∀ n, n ∈ (putE p.1 x).l ↔ n ∈ p.1.l ∨ n = x.s := fun n => mem_put
    refine ⟨(fun h => by cases h), (fun h => by cases h), fun n => ?_, norm_asc _, ?_, fun _ => hk.2, fun _ => hk.2, fun n hn hne => ?_, fun _ _ => hg, fun _ _ _ => ⟨rfl, rfl, rfl, rfl, rfl⟩, (fun _ _ h => by cases h)⟩
    · show n ∈ (putE p.1 x).l ↔ n ∈ (putE o.1 x).l ∧ _
      rw [hm, hmp, h.pm]
      exact ⟨fun a => a.elim (fun a => ⟨.inl a.1, a.2⟩) (fun e => ⟨.inr e, e ▸ hx⟩), fun ⟨a, b⟩ => a.elim (fun a => .inl ⟨a, b⟩) .inr⟩
    · exact ⟨fun _ => ⟨x.s, (hm _).2 (.inr rfl), hx⟩, fun _ => rfl⟩
    · exact ((hm n).1 hn).elim (fun a => h.ol n a hne) (fun e => e ▸ hg)
  · rw [if_neg hk, if_neg hk]
    by_cases h5 : x.k = 5 ∧ x.d = d
    · cases ho : o.2 with
      | false =>
        rw [if_neg (fun h' => by cases h'.2.1), if_neg (fun h' => by rw [h.no ho] at h'; cases h'.2.1)]
        exact h
      | true =>
        rw [if_pos ⟨h5.1, rfl, h5.2⟩]
        have hm : ∀ n, n ∈ (delE o.1 x).l ↔ n ∈ o.1.l := fun n => norm_mem _ _
        cases hp : p.2 with
        | false =>
          rw [if_neg (fun h' => by cases h'.2.1)]
          refine ⟨(fun h => by cases h), h.pz, fun n => ?_, h.pa, ?_, fun _ => h.od ho, h.pd, fun n hn hne => h.ol n ((hm n).1 hn) hne, fun _ _ => hg, (fun _ _ h' => by rw [hp] at h'; cases h'), fun _ _ _ => rfl⟩
          · rw [h.pm]
            show _ ↔ n ∈ (delE o.1 x).l ∧ _
            rw [hm]
          · rw [h.p2]
            exact ⟨fun ⟨n, a, b⟩ => ⟨n, (hm n).2 a, b⟩, fun ⟨n, a, b⟩ => ⟨n, (hm n).1 a, b⟩⟩
        | true =>
          rw [if_pos ⟨h5.1, rfl, h5.2⟩]
          have hmp : ∀ n, n ∈ (delE p.1 x).l ↔ n ∈ p.1.l := fun n => norm_mem _ _
          refine ⟨(fun h => by cases h), (fun h => by cases h), fun n => ?_, norm_asc _, ?_, fun _ => h.od ho, fun _ => h.pd hp, fun n hn hne => h.ol n ((hm n).1 hn) hne, fun _ _ => hg, fun _ _ _ => ⟨rfl, rfl, rfl, rfl, rfl⟩, (fun _ _ h => by cases h)⟩
          · show n ∈ (delE p.1 x).l ↔ n ∈ (delE o.1 x).l ∧ _
            rw [hm, hmp, h.pm]
          · refine ⟨fun _ => ?_, fun _ => rfl⟩
            obtain ⟨n, a, b⟩ := h.p2.1 hp
            exact ⟨n, (hm n).2 a, b⟩
    · rw [if_neg (fun h' => h5 ⟨h'.1, h'.2.2⟩), if_neg (fun h' => h5 ⟨h'.1, h'.2.2⟩)]
      exact h
theorem FgE.fin {seg : Int} {sg : List Int} {d : List UInt8} {o p : En × Bool} (h : FgE seg sg d o p) (hl : o.2 = true → o.1.s = seg → o.1.k = 5 ∧ ∀ n, n ∈ o.1.l → n = seg) (hg : seg ∉ sg) :
    (if o.2 = true ∧ (keepE o.1 sg).2 = true then keepE o.1 sg else (zE, false)) = p := by
  cases ho : o.2 with
  | false => rw [if_neg (fun h => by cases h.1), h.pz (h.no ho)]
  | true =>
    have hb : both o.1.l sg = p.1.l := (norm_asc _).unique h.pa (fun n => by
      rw [norm_mem, List.mem_filter, h.pm, decide_eq_true_iff]
      exact ⟨fun ⟨a, b⟩ => ⟨a, fun e => hg (e ▸ b)⟩, fun ⟨a, b⟩ => ⟨a, h.ol n a b⟩⟩)
    by_cases hs : o.1.s = seg
    · obtain ⟨h5, hn⟩ := hl ho hs
      have hp : p.2 = false := by
        cases hp : p.2 with
        | false => rfl
        | true => obtain ⟨n, a, b⟩ := h.p2.1 hp; exact absurd (hn n a) b
      have he : p.1.l = [] := by rw [h.pz hp]; rfl
      have hk : keepE o.1 sg = (zE, false) := by unfold keepE; rw [if_pos ⟨hb.trans he, .inr h5⟩]
      rw [hk, if_neg (fun h => by cases h.2), h.pz hp]
    · have hsg := h.os ho hs
      cases hp : p.2 with
      | false =>
        have he : p.1.l = [] := by rw [h.pz hp]; rfl
        have hk : keepE o.1 sg = (zE, false) := by unfold keepE; rw [if_pos ⟨hb.trans he, .inr (h.dl ho hs hp)⟩]
        rw [hk, if_neg (fun h => by cases h.2), h.pz hp]
      | true =>
        have hne : p.1.l ≠ [] := fun he => by
          obtain ⟨n, a, b⟩ := h.p2.1 hp
          have := (h.pm n).2 ⟨a, b⟩
          rw [he] at this; cases this
        have hk : keepE o.1 sg = p := by
          unfold keepE
          rw [if_neg (fun h => hne (hb.symm.trans h.1)), if_neg (fun h => h hsg)]
          obtain ⟨e1, e2, e3, e4, e5⟩ := h.sm ho hs hp
          have e0 := h.od ho
          have e6 := h.pd hp
          obtain ⟨⟨pd, pk, pz, ps, po, pq, pl⟩, pb⟩ := p
          dsimp only at e1 e2 e3 e4 e5 e6 hb hp ⊢
          rw [hb, e0, ← e6, ← e1, ← e2, ← e3, ← e4, ← e5, hp]
        rw [hk, if_pos ⟨rfl, hp⟩]
theorem others_zero {l : List Int} {s : Int} : others l s = 0 ↔ ∀ n, n ∈ l → n = s := by
  unfold others
  rw [List.length_eq_zero_iff, List.filter_eq_nil_iff]
  simp
theorem dead_of {seg : Int} {l : List En} (h : herE seg l = []) {e : En} (he : e ∈ l) (hs : e.s = seg) : e.k = 5 ∧ ∀ n, n ∈ e.l → n = seg := by
  unfold herE at h
  rw [List.map_eq_nil_iff, List.filter_eq_nil_iff] at h
  have := h e he
  rw [decide_eq_true hs, Bool.true_and] at this
  unfold liveE at this
  simp only [Bool.or_eq_true, Bool.not_eq_true', beq_eq_false_iff_ne, decide_eq_true_iff, not_or, Classical.not_not] at this
  exact ⟨this.1, hs ▸ others_zero.1 this.2⟩
/-! ### the whole -/
def allE (ws : List Wd) : List En := ws.foldl applyE []
theorem foldE_asc : ∀ (ws : List Wd) {l : List En}, AscE l → AscE (ws.foldl applyE l)
  | [], _, h => h
  | x :: r, _, h => foldE_asc r (applyE_asc h x)
theorem allE_asc (ws : List Wd) : AscE (allE ws) := foldE_asc ws List.Pairwise.nil
theorem fgE_fold {seg : Int} {sg : List Int} (d : List UInt8) : ∀ (ws : List Wd) {a b : List En}, AscE a → AscE b → FgE seg sg d (getE d a) (getE d b) → (∀ x ∈ ws, x.s ≠ seg → x.s ∈ sg) → FgE seg sg d (getE d (ws.foldl applyE a)) (getE d ((ws.filter (fun x => decide (x.s ≠ seg))).foldl applyE b))
  | [], _, _, _, _, h, _ => h
  | x :: r, a, b, ha, hb, h, hg => by
    by_cases hx : x.s = seg
    · rw [List.filter_cons_of_neg (by simpa using hx)]
      exact fgE_fold d r (applyE_asc ha x) hb (by rw [getE_apply ha]; exact h.stepIn hx) (fun y hy => hg y (List.mem_cons_of_mem _ hy))
    · rw [List.filter_cons_of_pos (by simpa using hx)]
      exact fgE_fold d r (applyE_asc ha x) (applyE_asc hb x) (by rw [getE_apply ha, getE_apply hb]; exact h.stepOut hx (hg x (List.mem_cons_self ..) hx)) (fun y hy => hg y (List.mem_cons_of_mem _ hy))
theorem forgetE {seg : Int} {sg : List Int} {ws : List Wd} (hd : herE seg (allE ws) = []) (hg : ∀ x ∈ ws, x.s ≠ seg → x.s ∈ sg) (hn : seg ∉ sg) : keepLE sg (allE ws) = allE (ws.filter (fun x => decide (x.s ≠ seg))) := by
  refine getE_ext (keepLE_asc sg (allE_asc _)) (allE_asc _) (fun d => ?_)
  have h := fgE_fold (seg := seg) (sg := sg) d ws (a := []) (b := []) List.Pairwise.nil List.Pairwise.nil (FgE.nil _ _ _) hg
  rw [getE_keep (allE_asc _)]
  exact h.fin (fun h1 h2 => dead_of hd (getE_mem h1).1 h2) hn
/-! ### loads -/
theorem keptL_set {sg : List Int} {s n : Int} : ∀ {l : List Lo}, AscL l → keptL sg (setL s n l) = if s ∈ sg then setL s n (keptL sg l) else keptL sg l
  | [], _ => by
    unfold keptL
    by_cases h : s ∈ sg
    · rw [if_pos h]; simp [setL, h]
    · rw [if_neg h]; simp [setL, h]
  | y :: r, ha => by
    have c := List.pairwise_cons.1 ha
    have ih := keptL_set (sg := sg) (s := s) (n := n) c.2
    have kc : ∀ (z : Lo) (q : List Lo), keptL sg (z :: q) = if z.s ∈ sg then z :: keptL sg q else keptL sg q := fun z q => by
      unfold keptL
      by_cases h : z.s ∈ sg
      · rw [List.filter_cons_of_pos (by simpa using h), if_pos h]
      · rw [List.filter_cons_of_neg (by simpa using h), if_neg h]
    rw [setL]
    by_cases h1 : s < y.s
    · rw [if_pos h1, kc ⟨s, n, 0⟩]
      by_cases h : s ∈ sg
      · rw [if_pos h, if_pos h, setL_lt (fun z hz => ?_)]
        have hz := (List.mem_filter.1 hz).1
        rcases List.mem_cons.1 hz with rfl | hz
        · exact h1
        · have := c.1 z hz; omega
      · rw [if_neg h, if_neg h]
    · rw [if_neg h1]
      by_cases h2 : s = y.s
      · subst h2
        rw [if_pos rfl, kc, kc y]
        show (if y.s ∈ sg then _ else _) = _
        by_cases h : y.s ∈ sg
        · rw [if_pos h, if_pos h, if_pos h, setL, if_neg h1, if_pos rfl]
        · rw [if_neg h, if_neg h, if_neg h]
      · rw [if_neg h2, kc, kc, ih]
        by_cases h : s ∈ sg
        · rw [if_pos h, if_pos h]
          by_cases h3 : y.s ∈ sg
          · rw [if_pos h3, if_pos h3, setL, if_neg h1, if_neg h2]
          · rw [if_neg h3, if_neg h3]
        · rw [if_neg h, if_neg h]
theorem oldL_kept {sg : List Int} {s : Int} (h : s ∈ sg) : ∀ l : List Lo, oldL s (keptL sg l) = oldL s l
  | [] => rfl
  | y :: r => by
    have ih := oldL_kept h r
    unfold keptL at ih ⊢
    by_cases h1 : y.s ∈ sg
    · rw [List.filter_cons_of_pos (by simpa using h1), oldL, oldL, ih]
    · rw [List.filter_cons_of_neg (by simpa using h1), ih, oldL, if_neg (by intro e; exact h1 (by rw [e]; exact h))]
def allL (ws : List Wd) : List Lo := ws.foldl (fun l x => applyS x l) []
theorem foldL_kept {seg : Int} {sg : List Int} (hn : seg ∉ sg) : ∀ (ws : List Wd) {a : List Lo}, AscL a → (∀ x ∈ ws, x.s ≠ seg → x.s ∈ sg) → keptL sg (ws.foldl (fun l x => applyS x l) a) = (ws.filter (fun x => decide (x.s ≠ seg))).foldl (fun l x => applyS x l) (keptL sg a)
  | [], _, _, _ => rfl
  | x :: r, a, ha, hg => by
    rw [List.foldl_cons, foldL_kept hn r (applyS_asc x ha) (fun y hy => hg y (List.mem_cons_of_mem _ hy))]
    by_cases hx : x.s = seg
    · rw [List.filter_cons_of_neg (by simpa using hx)]
      congr 1
      unfold applyS
      split
      · rw [keptL_set ha, if_neg (by rw [hx]; exact hn)]
      · rfl
    · rw [List.filter_cons_of_pos (by simpa using hx), List.foldl_cons]
      congr 1
      have hs := hg x (List.mem_cons_self ..) hx
      unfold applyS
      split
      · rw [keptL_set ha, if_pos hs, oldL_kept hs]
      · rfl
theorem forgetL {seg : Int} {sg : List Int} {ws : List Wd} (hg : ∀ x ∈ ws, x.s ≠ seg → x.s ∈ sg) (hn : seg ∉ sg) : keptL sg (allL ws) = allL (ws.filter (fun x => decide (x.s ≠ seg))) :=
  foldL_kept hn ws List.Pairwise.nil hg
end Go.Proofs.YthcclmlbkfadcaaGreat
/- chapter 22, plainly: what the words of the other segments come to (names) -/
namespace Go.Proofs.YthcclmlbkfadcaaGreat
open Go.GV Go.RowKit Go.Lib Go.Stb
open Tg (Tn liveT)
set_option linter.unusedVariables false
set_option linter.unusedSimpArgs false
theorem setR_mem_self (e : Tn) : ∀ l : List Tn, e ∈ Tg.setR e l
  | [] => by simp [Tg.setR]
  | x :: xs => by
    unfold Tg.setR
    split
    · exact List.mem_cons_of_mem _ (setR_mem_self e xs)
    · split <;> exact List.mem_cons_self ..
theorem setR_keep (e : Tn) : ∀ (l : List Tn) (y : Tn), y ∈ l → y.nm ≠ e.nm → y ∈ Tg.setR e l
  | [], y, h, _ => by cases h
  | x :: xs, y, h, hne => by
    unfold Tg.setR
    rcases List.mem_cons.1 h with rfl | h
    · split
      · exact List.mem_cons_self ..
      · exact List.mem_cons_of_mem _ (List.mem_cons_self ..)
    · split
      · exact List.mem_cons_of_mem _ (setR_keep e xs y h hne)
      · split
        · exact List.mem_cons_of_mem _ h
        · exact List.mem_cons_of_mem _ (List.mem_cons_of_mem _ h)
theorem ascT_uniq {l : List Tn} (h : Tg.AscT l) {x y : Tn} (hx : x ∈ l) (hy : y ∈ l) (hd : x.nm = y.nm) : x = y := by
  obtain ⟨i, hi⟩ := List.mem_iff_getElem?.1 hx
  obtain ⟨j, hj⟩ := List.mem_iff_getElem?.1 hy
  obtain ⟨hi1, hi2⟩ := List.getElem?_eq_some_iff.1 hi
  obtain ⟨hj1, hj2⟩ := List.getElem?_eq_some_iff.1 hj
  rcases Nat.lt_trichotomy i j with h1 | h1 | h1
  · have := List.pairwise_iff_getElem.1 h i j hi1 hj1 h1
    rw [hi2, hj2, hd, Tg.cmpN_self] at this; omega
  · subst h1
    rw [hi] at hj
    exact Option.some.inj hj
  · have := List.pairwise_iff_getElem.1 h j i hj1 hi1 h1
    rw [hi2, hj2, hd, Tg.cmpN_self] at this; omega
theorem setR_only {e : Tn} {l : List Tn} (ha : Tg.AscT l) {y : Tn} (hy : y ∈ Tg.setR e l) : y = e ∨ (y ∈ l ∧ y.nm ≠ e.nm) := by
  by_cases hd : y.nm = e.nm
  · exact .inl (ascT_uniq (Tg.setR_asc e ha) hy (setR_mem_self e l) hd)
  · rcases Tg.setR_mem e l y hy with h | h
    · exact .inl h
    · exact .inr ⟨h, hd⟩
theorem getR_mem {nm : ByteArray} {l : List Tn} (h : (Tg.getR nm l).2 = true) : (Tg.getR nm l).1 ∈ l ∧ (Tg.getR nm l).1.nm = nm := by
  unfold Tg.getR at h ⊢
  cases hf : l.find? (fun x => decide (x.nm = nm)) with
  | none => rw [hf] at h; cases h
  | some e => exact ⟨List.mem_of_find?_eq_some hf, of_decide_eq_true (p := e.nm = nm) (List.find?_some (p := fun x : Tn => decide (x.nm = nm)) hf)⟩
theorem getR_of {nm : ByteArray} {l : List Tn} (ha : Tg.AscT l) {e : Tn} (he : e ∈ l) (hd : e.nm = nm) : Tg.getR nm l = (e, true) := by
  unfold Tg.getR
  cases hf : l.find? (fun x => decide (x.nm = nm)) with
  | none =>
    have := List.find?_eq_none.1 hf e he
    exact absurd (decide_eq_true hd) this
  | some y =>
    have h1 := List.mem_of_find?_eq_some hf
    have h2 : y.nm = nm := of_decide_eq_true (p := y.nm = nm) (List.find?_some (p := fun x : Tn => decide (x.nm = nm)) hf)
    rw [ascT_uniq ha h1 he (h2.trans hd.symm)]
theorem getR_set {e : Tn} {l : List Tn} (ha : Tg.AscT l) (d : ByteArray) : Tg.getR d (Tg.setR e l) = if e.nm = d then (e, true) else Tg.getR d l := by
  by_cases h : e.nm = d
  · rw [if_pos h]; exact getR_of (Tg.setR_asc e ha) (setR_mem_self e l) h
  · rw [if_neg h]
    by_cases hb : (Tg.getR d l).2 = true
    · obtain ⟨hm, hd⟩ := getR_mem hb
      rw [getR_of (Tg.setR_asc e ha) (setR_keep e l _ hm (by rw [hd]; exact fun h' => h h'.symm)) hd, getR_of ha hm hd]
    · have hn : ∀ x ∈ l, x.nm ≠ d := fun x hx hd => hb (by rw [getR_of ha hx hd])
      rw [Tg.getR_none hn, Tg.getR_none (fun x hx hd => (setR_only ha hx).elim (fun e' => h (by rw [← e']; exact hd)) (fun h' => hn x h'.1 hd))]
theorem nms_ext : ∀ {a b : List ByteArray}, a.Pairwise (fun x y => Tg.cmpN x y < 0) → b.Pairwise (fun x y => Tg.cmpN x y < 0) → (∀ d, d ∈ a ↔ d ∈ b) → a = b
  | [], [], _, _, _ => rfl
  | [], y :: b, _, _, h => by have := (h y).2 (List.mem_cons_self ..); cases this
  | x :: a, [], _, _, h => by have := (h x).1 (List.mem_cons_self ..); cases this
  | x :: a, y :: b, ha, hb, h => by
    have hca := List.pairwise_cons.1 ha
    have hcb := List.pairwise_cons.1 hb
    have hxy : x = y := by
      rcases List.mem_cons.1 ((h x).1 (List.mem_cons_self ..)) with h1 | h1
      · exact h1
      · rcases List.mem_cons.1 ((h y).2 (List.mem_cons_self ..)) with h2 | h2
        · exact h2.symm
        · have q1 := hcb.1 x h1
          have q2 := hca.1 y h2
          have := Tg.cmpN_anti x y
          omega
    subst hxy
    congr 1
    refine nms_ext hca.2 hcb.2 (fun d => ⟨fun hd => ?_, fun hd => ?_⟩)
    · rcases List.mem_cons.1 ((h d).1 (List.mem_cons_of_mem _ hd)) with h1 | h1
      · subst h1; have := hca.1 d hd; rw [Tg.cmpN_self] at this; omega
      · exact h1
    · rcases List.mem_cons.1 ((h d).2 (List.mem_cons_of_mem _ hd)) with h1 | h1
      · subst h1; have := hcb.1 d hd; rw [Tg.cmpN_self] at this; omega
      · exact h1
def nmsT (l : List Tn) : List ByteArray := l.map (·.nm)
theorem nms_mem {l : List Tn} (ha : Tg.AscT l) (d : ByteArray) : d ∈ nmsT l ↔ (Tg.getR d l).2 = true := by
  constructor
  · intro h
    obtain ⟨e, he, hd⟩ := List.mem_map.1 h
    rw [getR_of ha he hd]
  · intro h
    obtain ⟨hm, hd⟩ := getR_mem h
    exact List.mem_map.2 ⟨_, hm, hd⟩
theorem nms_back {l : List Tn} (ha : Tg.AscT l) : (nmsT l).map (fun d => (Tg.getR d l).1) = l := by
  unfold nmsT
  rw [List.map_map]
  refine (List.map_congr_left (g := id) (fun e he => ?_)).trans (List.map_id _)
  show (Tg.getR e.nm l).1 = e
  rw [getR_of ha he rfl]
theorem getR_ext {a b : List Tn} (ha : Tg.AscT a) (hb : Tg.AscT b) (h : ∀ d, Tg.getR d a = Tg.getR d b) : a = b := by
  have e : nmsT a = nmsT b := nms_ext (List.pairwise_map.2 ha) (List.pairwise_map.2 hb) (fun d => by rw [nms_mem ha, nms_mem hb, h])
  rw [← nms_back ha, ← nms_back hb, e]
  exact List.map_congr_left (fun d _ => by rw [h])
theorem getR_keep {sg : List Int} {l : List Tn} (ha : Tg.AscT l) (d : ByteArray) : Tg.getR d (Tg.keepL sg l) = if (Tg.getR d l).2 = true ∧ (Tg.keepT (Tg.getR d l).1 sg).2 = true then Tg.keepT (Tg.getR d l).1 sg else (Tg.zT, false) := by
  by_cases hb : (Tg.getR d l).2 = true
  · obtain ⟨hm, hd⟩ := getR_mem hb
    by_cases hk : (Tg.keepT (Tg.getR d l).1 sg).2 = true
    · rw [if_pos ⟨hb, hk⟩, getR_of (Tg.keepL_asc sg ha) (e := (Tg.keepT (Tg.getR d l).1 sg).1) (List.mem_filterMap.2 ⟨_, hm, by rw [if_pos hk]⟩) (by rw [Tg.keepT_nm hk, hd])]
      exact Prod.ext rfl hk.symm
    · rw [if_neg (fun h => hk h.2)]
      refine Tg.getR_none (fun x hx hxd => ?_)
      obtain ⟨y, hy, h2⟩ := List.mem_filterMap.1 hx
      split at h2
      · rename_i h3
        injection h2 with h2
        have : y = (Tg.getR d l).1 := ascT_uniq ha hy hm (by rw [hd, ← Tg.keepT_nm h3, h2, hxd])
        rw [this] at h3; exact hk h3
      · cases h2
  · rw [if_neg (fun h => hb h.1)]
    refine Tg.getR_none (fun x hx hxd => ?_)
    obtain ⟨y, hy, h2⟩ := List.mem_filterMap.1 hx
    split at h2
    · rename_i h3
      injection h2 with h2
      exact hb (by rw [getR_of ha hy (by rw [← Tg.keepT_nm h3, h2, hxd])])
    · cases h2
/-- what a name has behind a word -/
def stT (d : ByteArray) (o : Tn × Bool) (x : Wd) : Tn × Bool :=
  if x.k = 3 ∧ x.nm = d then (Tg.tagE o.1 x, true) else if x.k = 4 ∧ o.2 = true ∧ x.nm = d then (Tg.untE o.1 x, true) else o
theorem getR_apply {l : List Tn} (ha : Tg.AscT l) (x : Wd) (d : ByteArray) : Tg.getR d (Tg.applyL x l) = stT d (Tg.getR d l) x := by
  by_cases h1 : x.k = 3
  · rw [Tg.applyL, if_pos h1, getR_set ha]
    by_cases h2 : x.nm = d
    · subst h2
      rw [if_pos (show (Tg.tagE (Tg.getR x.nm l).1 x).nm = x.nm from rfl), stT, if_pos ⟨h1, rfl⟩]
    · rw [if_neg (show ¬ (Tg.tagE (Tg.getR x.nm l).1 x).nm = d from h2), stT, if_neg (fun h => h2 h.2), if_neg (fun h => h2 h.2.2)]
  · by_cases h2 : x.k = 4 ∧ (Tg.getR x.nm l).2 = true
    · rw [Tg.applyL, if_neg h1, if_pos h2, getR_set ha]
      have hd : (Tg.untE (Tg.getR x.nm l).1 x).nm = x.nm := (getR_mem h2.2).2
      by_cases h3 : x.nm = d
      · subst h3; rw [if_pos hd, stT, if_neg (fun h => h1 h.1), if_pos ⟨h2.1, h2.2, rfl⟩]
      · rw [if_neg (by rw [hd]; exact h3), stT, if_neg (fun h => h1 h.1), if_neg (fun h => h3 h.2.2)]
    · rw [Tg.applyL, if_neg h1, if_neg h2, stT, if_neg (fun h => h1 h.1)]
      by_cases h3 : x.nm = d
      · subst h3; rw [if_neg (fun h => h2 ⟨h.1, h.2.1⟩)]
      · rw [if_neg (fun h => h3 h.2.2)]
structure FgT (seg : Int) (sg : List Int) (d : ByteArray) (o p : Tn × Bool) : Prop where
  z : o.2 = false → o = (Tg.zT, false)
  pz : p.2 = false → p = (Tg.zT, false)
  pm : ∀ n, n ∈ p.1.l ↔ n ∈ o.1.l ∧ n ≠ seg
  pa : AscI p.1.l
  p2 : p.2 = true ↔ ∃ n, n ∈ o.1.l ∧ n ≠ seg
  od : o.2 = true → o.1.nm = d
  pd : p.2 = true → p.1.nm = d
  ol : ∀ n, n ∈ o.1.l → n ≠ seg → n ∈ sg
  os : o.2 = true → o.1.s ≠ seg → o.1.s ∈ sg
  sm : o.2 = true → o.1.s ≠ seg → p.2 = true → p.1.d = o.1.d ∧ p.1.g = o.1.g ∧ p.1.s = o.1.s ∧ p.1.o = o.1.o ∧ p.1.q = o.1.q
  dl : o.2 = true → o.1.s ≠ seg → p.2 = false → o.1.g = true
theorem FgT.nil (seg : Int) (sg : List Int) (d : ByteArray) : FgT seg sg d (Tg.zT, false) (Tg.zT, false) :=
  ⟨fun _ => rfl, fun _ => rfl, fun n => by show n ∈ ([] : List Int) ↔ n ∈ ([] : List Int) ∧ _; simp, List.Pairwise.nil, ⟨(fun h => by cases h), fun ⟨n, h, _⟩ => by cases h⟩, (fun h => by cases h), (fun h => by cases h), (fun n h => by cases h), (fun h => by cases h), (fun h => by cases h), (fun h => by cases h)⟩
theorem FgT.no {seg : Int} {sg : List Int} {d : ByteArray} {o p : Tn × Bool} (h : FgT seg sg d o p) (h0 : o.2 = false) : p.2 = false := by
  cases hp : p.2 with
  | false => rfl
  | true =>
    obtain ⟨n, hn, _⟩ := h.p2.1 hp
    rw [h.z h0] at hn
    cases hn
theorem FgT.stepIn {seg : Int} {sg : List Int} {d : ByteArray} {o p : Tn × Bool} (h : FgT seg sg d o p) {x : Wd} (hx : x.s = seg) : FgT seg sg d (stT d o x) p := by
  unfold stT
  split
  · rename_i hk
    have hm : ∀ n, n ∈ (Tg.tagE o.1 x).l ↔ n ∈ o.1.l ∨ n = x.s := fun n => mem_put
    have hs : (Tg.tagE o.1 x).s = seg := hx
    refine ⟨(fun h => by cases h), h.pz, fun n => ?_, h.pa, ?_, fun _ => hk.2, h.pd, fun n hn hne => ?_, fun _ hne => absurd hs hne, fun _ hne => absurd hs hne, fun _ hne => absurd hs hne⟩
    · rw [h.pm]
      show _ ↔ n ∈ (Tg.tagE o.1 x).l ∧ _
      rw [hm]
      exact ⟨fun ⟨a, b⟩ => ⟨.inl a, b⟩, fun ⟨a, b⟩ => ⟨a.elim id (fun e => absurd (e.trans hx) b), b⟩⟩
    · rw [h.p2]
      exact ⟨fun ⟨n, a, b⟩ => ⟨n, (hm n).2 (.inl a), b⟩, fun ⟨n, a, b⟩ => ⟨n, ((hm n).1 a).elim id (fun e => absurd (e.trans hx) b), b⟩⟩
    · exact h.ol n (((hm n).1 hn).elim id (fun e => absurd (e.trans hx) hne)) hne
  · split
    · rename_i _ hk
      have hm : ∀ n, n ∈ (Tg.untE o.1 x).l ↔ n ∈ o.1.l := fun n => norm_mem _ _
      have hs : (Tg.untE o.1 x).s = seg := hx
      refine ⟨(fun h => by cases h), h.pz, fun n => ?_, h.pa, ?_, fun _ => h.od hk.2.1, h.pd, fun n hn hne => h.ol n ((hm n).1 hn) hne, fun _ hne => absurd hs hne, fun _ hne => absurd hs hne, fun _ hne => absurd hs hne⟩
      · rw [h.pm]
        show _ ↔ n ∈ (Tg.untE o.1 x).l ∧ _
        rw [hm]
      · rw [h.p2]
        exact ⟨fun ⟨n, a, b⟩ => ⟨n, (hm n).2 a, b⟩, fun ⟨n, a, b⟩ => ⟨n, (hm n).1 a, b⟩⟩
    · exact h
theorem FgT.stepOut {seg : Int} {sg : List Int} {d : ByteArray} {o p : Tn × Bool} (h : FgT seg sg d o p) {x : Wd} (hx : x.s ≠ seg) (hg : x.s ∈ sg) : FgT seg sg d (stT d o x) (stT d p x) := by
  unfold stT
  by_cases hk : x.k = 3 ∧ x.nm = d
  · rw [if_pos hk, if_pos hk]
    have hm : ∀ n, n ∈ (Tg.tagE o.1 x).l ↔ n ∈ o.1.l ∨ n = x.s := fun n => mem_put
    have hmp : ∀ n, n ∈ (Tg.tagE p.1 x).l ↔ n ∈ p.1.l ∨ n = x.s := fun n => mem_put
    refine ⟨(fun h => by cases h), (fun h => by cases h), fun n => ?_, norm_asc _, ?_, fun _ => hk.2, fun _ => hk.2, fun n hn hne => ?_, fun _ _ => hg, fun _ _ _ => ⟨rfl, rfl, rfl, rfl, rfl⟩, (fun _ _ h => by cases h)⟩
    · show n ∈ (Tg.tagE p.1 x).l ↔ n ∈ (Tg.tagE o.1 x).l ∧ _
      rw [hm, hmp, h.pm]
      exact ⟨fun a => a.elim (fun a => ⟨.inl a.1, a.2⟩) (fun e => ⟨.inr e, e ▸ hx⟩), fun ⟨a, b⟩ => a.elim (fun a => .inl ⟨a, b⟩) .inr⟩
    · exact ⟨fun _ => ⟨x.s, (hm _).2 (.inr rfl), hx⟩, fun _ => rfl⟩
    · exact ((hm n).1 hn).elim (fun a => h.ol n a hne) (fun e => e ▸ hg)
  · rw [if_neg hk, if_neg hk]
    by_cases h5 : x.k = 4 ∧ x.nm = d
    · cases ho : o.2 with
      | false =>
        rw [if_neg (fun h' => by cases h'.2.1), if_neg (fun h' => by rw [h.no ho] at h'; cases h'.2.1)]
        exact h
      | true =>
        rw [if_pos ⟨h5.1, rfl, h5.2⟩]
        have hm : ∀ n, n ∈ (Tg.untE o.1 x).l ↔ n ∈ o.1.l := fun n => norm_mem _ _
        cases hp : p.2 with
        | false =>
          rw [if_neg (fun h' => by cases h'.2.1)]
          refine ⟨(fun h => by cases h), h.pz, fun n => ?_, h.pa, ?_, fun _ => h.od ho, h.pd, fun n hn hne => h.ol n ((hm n).1 hn) hne, fun _ _ => hg, (fun _ _ h' => by rw [hp] at h'; cases h'), fun _ _ _ => rfl⟩
          · rw [h.pm]
            show _ ↔ n ∈ (Tg.untE o.1 x).l ∧ _
            rw [hm]
          · rw [h.p2]
            exact ⟨fun ⟨n, a, b⟩ => ⟨n, (hm n).2 a, b⟩, fun ⟨n, a, b⟩ => ⟨n, (hm n).1 a, b⟩⟩
        | true =>
          rw [if_pos ⟨h5.1, rfl, h5.2⟩]
          have hmp : ∀ n, n ∈ (Tg.untE p.1 x).l ↔ n ∈ p.1.l := fun n => norm_mem _ _
          refine ⟨(fun h => by cases h), (fun h => by cases h), fun n => ?_, norm_asc _, ?_, fun _ => h.od ho, fun _ => h.pd hp, fun n hn hne => h.ol n ((hm n).1 hn) hne, fun _ _ => hg, fun _ _ _ => ⟨rfl, rfl, rfl, rfl, rfl⟩, (fun _ _ h => by cases h)⟩
          · show n ∈ (Tg.untE p.1 x).l ↔ n ∈ (Tg.untE o.1 x).l ∧ _
            rw [hm, hmp, h.pm]
          · refine ⟨fun _ => ?_, fun _ => rfl⟩
            obtain ⟨n, a, b⟩ := h.p2.1 hp
            exact ⟨n, (hm n).2 a, b⟩
    · rw [if_neg (fun h' => h5 ⟨h'.1, h'.2.2⟩), if_neg (fun h' => h5 ⟨h'.1, h'.2.2⟩)]
      exact h
theorem FgT.fin {seg : Int} {sg : List Int} {d : ByteArray} {o p : Tn × Bool} (h : FgT seg sg d o p) (hl : o.2 = true → o.1.s = seg → o.1.g = true ∧ ∀ n, n ∈ o.1.l → n = seg) (hg : seg ∉ sg) :
    (if o.2 = true ∧ (Tg.keepT o.1 sg).2 = true then Tg.keepT o.1 sg else (Tg.zT, false)) = p := by
  cases ho : o.2 with
  | false => rw [if_neg (fun h => by cases h.1), h.pz (h.no ho)]
  | true =>
    have hb : both o.1.l sg = p.1.l := (norm_asc _).unique h.pa (fun n => by
      rw [norm_mem, List.mem_filter, h.pm, decide_eq_true_iff]
      exact ⟨fun ⟨a, b⟩ => ⟨a, fun e => hg (e ▸ b)⟩, fun ⟨a, b⟩ => ⟨a, h.ol n a b⟩⟩)
    by_cases hs : o.1.s = seg
    · obtain ⟨h5, hn⟩ := hl ho hs
      have hp : p.2 = false := by
        cases hp : p.2 with
        | false => rfl
        | true => obtain ⟨n, a, b⟩ := h.p2.1 hp; exact absurd (hn n a) b
      have he : p.1.l = [] := by rw [h.pz hp]; rfl
      have hk : Tg.keepT o.1 sg = (Tg.zT, false) := by unfold Tg.keepT; rw [if_pos ⟨hb.trans he, .inr h5⟩]
      rw [hk, if_neg (fun h => by cases h.2), h.pz hp]
    · have hsg := h.os ho hs
      cases hp : p.2 with
      | false =>
        have he : p.1.l = [] := by rw [h.pz hp]; rfl
        have hk : Tg.keepT o.1 sg = (Tg.zT, false) := by unfold Tg.keepT; rw [if_pos ⟨hb.trans he, .inr (h.dl ho hs hp)⟩]
        rw [hk, if_neg (fun h => by cases h.2), h.pz hp]
      | true =>
        have hne : p.1.l ≠ [] := fun he => by
          obtain ⟨n, a, b⟩ := h.p2.1 hp
          have := (h.pm n).2 ⟨a, b⟩
          rw [he] at this; cases this
        have hk : Tg.keepT o.1 sg = p := by
          unfold Tg.keepT
          rw [if_neg (fun h => hne (hb.symm.trans h.1)), if_neg (fun h => h hsg)]
          obtain ⟨e1, e2, e3, e4, e5⟩ := h.sm ho hs hp
          have e0 := h.od ho
          have e6 := h.pd hp
          obtain ⟨⟨pd, pk, pz, ps, po, pq, pl⟩, pb⟩ := p
          dsimp only at e1 e2 e3 e4 e5 e6 hb hp ⊢
          rw [hb, e0, ← e6, ← e1, ← e2, ← e3, ← e4, ← e5, hp]
        rw [hk, if_pos ⟨rfl, hp⟩]
theorem deadT_of {seg : Int} {l : List Tn} (h : herT seg l = []) {e : Tn} (he : e ∈ l) (hs : e.s = seg) : e.g = true ∧ ∀ n, n ∈ e.l → n = seg := by
  unfold herT at h
  rw [List.map_eq_nil_iff, List.filter_eq_nil_iff] at h
  have := h e he
  rw [decide_eq_true hs, Bool.true_and] at this
  unfold liveT at this
  simp only [Bool.or_eq_true, Bool.not_eq_true', decide_eq_true_iff, not_or, Classical.not_not, Bool.not_eq_false] at this
  exact ⟨this.1, hs ▸ others_zero.1 this.2⟩
def allT (ws : List Wd) : List Tn := ws.foldl (fun l x => Tg.applyL x l) []
theorem foldT_asc : ∀ (ws : List Wd) {l : List Tn}, Tg.AscT l → Tg.AscT (ws.foldl (fun l x => Tg.applyL x l) l)
  | [], _, h => h
  | x :: r, _, h => foldT_asc r (Tg.applyL_asc x h)
theorem allT_asc (ws : List Wd) : Tg.AscT (allT ws) := foldT_asc ws List.Pairwise.nil
theorem fgT_fold {seg : Int} {sg : List Int} (d : ByteArray) : ∀ (ws : List Wd) {a b : List Tn}, Tg.AscT a → Tg.AscT b → FgT seg sg d (Tg.getR d a) (Tg.getR d b) → (∀ x ∈ ws, x.s ≠ seg → x.s ∈ sg) → FgT seg sg d (Tg.getR d (ws.foldl (fun l x => Tg.applyL x l) a)) (Tg.getR d ((ws.filter (fun x => decide (x.s ≠ seg))).foldl (fun l x => Tg.applyL x l) b))
  | [], _, _, _, _, h, _ => h
  | x :: r, a, b, ha, hb, h, hg => by
    by_cases hx : x.s = seg
    · rw [List.filter_cons_of_neg (by simpa using hx)]
      exact fgT_fold d r (Tg.applyL_asc x ha) hb (by rw [getR_apply ha]; exact h.stepIn hx) (fun y hy => hg y (List.mem_cons_of_mem _ hy))
    · rw [List.filter_cons_of_pos (by simpa using hx)]
      exact fgT_fold d r (Tg.applyL_asc x ha) (Tg.applyL_asc x hb) (by rw [getR_apply ha, getR_apply hb]; exact h.stepOut hx (hg x (List.mem_cons_self ..) hx)) (fun y hy => hg y (List.mem_cons_of_mem _ hy))
theorem forgetT {seg : Int} {sg : List Int} {ws : List Wd} (hd : herT seg (allT ws) = []) (hg : ∀ x ∈ ws, x.s ≠ seg → x.s ∈ sg) (hn : seg ∉ sg) : Tg.keepL sg (allT ws) = allT (ws.filter (fun x => decide (x.s ≠ seg))) := by
  refine getR_ext (Tg.keepL_asc sg (allT_asc _)) (allT_asc _) (fun d => ?_)
  have h := fgT_fold (seg := seg) (sg := sg) d ws (a := []) (b := []) List.Pairwise.nil List.Pairwise.nil (FgT.nil _ _ _) hg
  rw [getR_keep (allT_asc _)]
  exact h.fin (fun h1 h2 => deadT_of hd (getR_mem h1).1 h2) hn
theorem stab_nil_of {l : List Wd} (h : stab cmpO l = []) : l = [] := by
  have : (stab cmpO l).length = l.length := stab_len l
  rw [h] at this
  exact List.length_eq_zero_iff.1 this.symm
theorem her_nil {s : Int} {lE : List En} {lT : List Tn} (h : herL s lE lT = []) : herE s lE = [] ∧ herT s lT = [] :=
  List.append_eq_nil_iff.1 (stab_nil_of h)
end Go.Proofs.YthcclmlbkfadcaaGreat
/- chapter 22: two states side by side; the law of forgetting -/
namespace Go.Proofs.YthcclmlbkfadcaaGreat
open Go.GV Go.RowKit Go.Lib Go.Stb
open Tg (Tn liveT)
set_option linter.unusedVariables false
set_option linter.unusedSimpArgs false
/-- others' blocks change, and are told anew -/
theorem Sta.move {u u' : World} {B sb : Nat} {d : SD} (h : Sta u B sb d) {S Z' : Nat → Prop} (f : Fr S u u') (hD : ∀ k, d.D sb k → ¬ S k) (hS : ∀ k, S k → k < u.heap.size → d.Z k) (hZ : ∀ k, Z' k → d.Z k ∨ u.heap.size ≤ k) (hb : ∀ k, Z' k → k < u'.heap.size) :
    Sta u' B sb { d with Z := Z' } := by
  refine ⟨h.rs.fr f (hD sb (.inl rfl)), h.ba, ?_, ?_, h.ta, f.row h.ld (fun k hk => hD k (.inr (.inr (.inr hk)))), h.ll, h.la, h.lz, h.s1, h.s2, h.s3, h.it, h.il, h.tl, hb⟩
  · have h1 := h.ix.monoX (X' := fun k => d.XI sb k ∧ k < u.heap.size) (fun k hk hx => ⟨hx, hk⟩)
    have h2 := h1.off f (fun k hk => hD k (.inr (.inl hk))) (fun k hk hs => hk.1.2.2.2 (hS k hs hk.2))
    exact h2.monoX (fun k _ hk => ⟨hk.1.1, hk.1.2.1, hk.1.2.2.1, fun hz => (hZ k hz).elim hk.1.2.2.2 (fun h' => by have := hk.2; omega)⟩)
  · have h1 := h.tg.monoX (X' := fun k => d.XT sb k ∧ k < u.heap.size) (fun k hk hx => ⟨hx, hk⟩)
    have h2 := h1.off f (fun k hk => hD k (.inr (.inr (.inl hk)))) (fun k hk hs => hk.1.2.2.2 (hS k hs hk.2))
    exact h2.monoX (fun k _ hk => ⟨hk.1.1, hk.1.2.1, hk.1.2.2.1, fun hz => (hZ k hz).elim hk.1.2.2.2 (fun h' => by have := hk.2; omega)⟩)
theorem Sta.low {u : World} {B B' sb : Nat} {d : SD} (h : Sta u B sb d) (hB : B' ≤ B) : Sta u B' sb d :=
  ⟨h.rs, Nat.le_trans hB h.ba, h.ix.low hB, Tab.low h.tg hB, h.ta, row_low hB h.ld, h.ll, h.la, h.lz, h.s1, h.s2, h.s3, h.it, h.il, h.tl, h.zb⟩
/-- two states and a row of numbers -/
structure Duo (w : World) (B sb tb : Nat) (d e : SD) (A : Option Addr) : Prop where
  s : Sta w B sb d
  t : Sta w B tb e
  zs : ∀ k, d.Z k ↔ e.D tb k ∨ blkOf A = some k
  zt : ∀ k, e.Z k ↔ d.D sb k ∨ blkOf A = some k
  st : ∀ k, d.D sb k → ¬ e.D tb k
  sa : ∀ k, d.D sb k → blkOf A ≠ some k
  ta : ∀ k, e.D tb k → blkOf A ≠ some k
  al : ∀ k, blkOf A = some k → k < w.heap.size
theorem Duo.fr0 {w w' : World} {B sb tb : Nat} {d e : SD} {A : Option Addr} (h : Duo w B sb tb d e A) (f : Fr (fun _ => False) w w') : Duo w' B sb tb d e A :=
  ⟨h.s.fr0 f, h.t.fr0 f, h.zs, h.zt, h.st, h.sa, h.ta, fun k hk => Nat.lt_of_lt_of_le (h.al k hk) f.size⟩
theorem Duo.swap {w : World} {B sb tb : Nat} {d e : SD} {A : Option Addr} (h : Duo w B sb tb d e A) : Duo w B tb sb e d A :=
  ⟨h.t, h.s, h.zt, h.zs, fun k h1 h2 => h.st k h2 h1, h.ta, h.sa, h.al⟩
theorem Duo.stp {w w' : World} {B sb tb : Nat} {d d' e : SD} {A : Option Addr} (h : Duo w B sb tb d e A) (s : Stp w w' B sb d d') :
    Duo w' B sb tb d' { e with Z := fun k => d'.D sb k ∨ blkOf A = some k } A := by
  have hb : ∀ k, (d'.D sb k ∨ blkOf A = some k) → k < w'.heap.size := fun k hk => hk.elim (fun h' => (s.st.lt h').2) (fun h' => Nat.lt_of_lt_of_le (h.al k h') s.fr.size)
  refine ⟨s.st, h.t.move s.fr (fun k hk hs => h.st k hs hk) (fun k hs _ => (h.zt k).2 (.inl hs)) (fun k hk => ?_) hb, fun k => by rw [s.zz]; exact h.zs k, fun k => Iff.rfl, fun k h1 h2 => ?_, fun k h1 h2 => ?_, h.ta, fun k hk => hb k (.inr hk)⟩
  · rcases hk with hk | hk
    · exact (s.up k hk).imp (fun h' => (h.zt k).2 (.inl h')) id
    · exact .inl ((h.zt k).2 (.inr hk))
  · have h2 : e.D tb k := h2
    rcases s.up k h1 with h' | h'
    · exact h.st k h' h2
    · have := (h.t.lt h2).2; omega
  · rcases s.up k h1 with h' | h'
    · exact h.sa k h' h2
    · have := h.al k h2; omega
theorem Duo.row {w w' : World} {B sb tb : Nat} {d e : SD} {A A' : Option Addr} (h : Duo w B sb tb d e A) (f : Fr (fun k => blkOf A = some k) w w') (hA : ∀ k, blkOf A' = some k → blkOf A = some k ∨ w.heap.size ≤ k) (hl : ∀ k, blkOf A' = some k → k < w'.heap.size) :
    Duo w' B sb tb { d with Z := fun k => e.D tb k ∨ blkOf A' = some k } { e with Z := fun k => d.D sb k ∨ blkOf A' = some k } A' := by
  refine ⟨h.s.move f h.sa (fun k hk _ => (h.zs k).2 (.inr hk)) (fun k hk => ?_) (fun k hk => ?_), h.t.move f h.ta (fun k hk _ => (h.zt k).2 (.inr hk)) (fun k hk => ?_) (fun k hk => ?_), fun k => Iff.rfl, fun k => Iff.rfl, h.st, fun k h1 h2 => ?_, fun k h1 h2 => ?_, hl⟩
  · rcases hk with hk | hk
    · exact .inl ((h.zs k).2 (.inl hk))
    · exact (hA k hk).imp (fun h' => (h.zs k).2 (.inr h')) id
  · exact hk.elim (fun h' => Nat.lt_of_lt_of_le (h.t.lt h').2 f.size) (hl k)
  · rcases hk with hk | hk
    · exact .inl ((h.zt k).2 (.inl hk))
    · exact (hA k hk).imp (fun h' => (h.zt k).2 (.inr h')) id
  · exact hk.elim (fun h' => Nat.lt_of_lt_of_le (h.s.lt h').2 f.size) (hl k)
  · have h1 : d.D sb k := h1
    rcases hA k h2 with h' | h'
    · exact h.sa k h1 h'
    · have := (h.s.lt h1).2; omega
  · have h1 : e.D tb k := h1
    rcases hA k h2 with h' | h'
    · exact h.ta k h1 h'
    · have := (h.t.lt h1).2; omega
theorem push_int2 {w : World} {B : Nat} {A : Option Addr} {n c : Nat} {out : List Int} {x : Int} {K : Option Addr → Nat → Nat → World → Prop} (hr : Row w B 3 1 A n c (ivs out)) (hB : B ≤ w.heap.size) (hn : n ≤ 2199023255552)
    (hK : ∀ A' c' w', Row w' B 3 1 A' (n + 1) c' (ivs (out ++ [x])) → Fr (fun k => blkOf A = some k) w w' → (∀ k, blkOf A' = some k → blkOf A = some k ∨ w.heap.size ≤ k) → K A' (n + 1) c' w') : nw w ([Value.int .i64 x] ++ []) 3 fun b w' => app w' 1 8 [Value.int .i64 0] 3 A n c (.slice (some ⟨b, 0, none⟩) 1 1) K := by
  refine nw_mk ?_
  rw [List.append_nil]
  have f1 : Fr (fun _ => False) w (w.alloc (.cells [Value.int .i64 x].toArray 3)) := Fr.alloc _ _ _
  have r1 : Row (w.alloc (.cells [Value.int .i64 x].toArray 3)) 0 3 1 (some ⟨w.heap.size, 0, none⟩) 1 1 (ivs [x]) := Row.new (Nat.zero_le _) rfl
  have hs : (w.alloc (.cells [Value.int .i64 x].toArray 3)).heap.size = w.heap.size + 1 := alloc_size _ _
  generalize w.alloc (.cells [Value.int .i64 x].toArray 3) = w1 at f1 r1 hs ⊢
  refine app_row2 (f1.row hr (fun _ _ h => h)) r1.sl.src (ivs_one [x]) rfl (by omega) (by omega) (by omega) (fun A' c' w' hr' f' hA => hK A' c' w' (by rw [ivs_app]; exact hr') ?_ (fun k hk => (hA k hk).imp id (fun h => by omega)))
  exact f1.trans f' (fun _ _ h => h.elim) (fun _ _ h => h)
/-- the words of the others -/
def oth (seg : Int) (ws : List Wd) : List Wd := ws.filter (fun x => decide (x.s ≠ seg))
def sgs (seg : Int) (ws : List Wd) : List Int := (oth seg ws).map (·.s)
theorem oth_in {seg : Int} {ws : List Wd} {i : Nat} {x : Wd} (gi : ws[i]? = some x) (hx : x.s = seg) : oth seg (ws.take (i + 1)) = oth seg (ws.take i) := by
  unfold oth
  rw [List.take_add_one, gi, Option.toList_some, List.filter_append, List.filter_cons_of_neg (by simpa using hx)]
  simp
theorem oth_out {seg : Int} {ws : List Wd} {i : Nat} {x : Wd} (gi : ws[i]? = some x) (hx : x.s ≠ seg) : oth seg (ws.take (i + 1)) = oth seg (ws.take i) ++ [x] := by
  unfold oth
  rw [List.take_add_one, gi, Option.toList_some, List.filter_append, List.filter_cons_of_pos (by simpa using hx)]
  rfl
theorem allE_snoc (ws : List Wd) (x : Wd) : allE (ws ++ [x]) = applyE (allE ws) x := by unfold allE; rw [List.foldl_append]; rfl
theorem allT_snoc (ws : List Wd) (x : Wd) : allT (ws ++ [x]) = Tg.applyL x (allT ws) := by unfold allT; rw [List.foldl_append]; rfl
theorem allL_snoc (ws : List Wd) (x : Wd) : allL (ws ++ [x]) = applyS x (allL ws) := by unfold allL; rw [List.foldl_append]; rfl
/-- a state is what words come to -/
structure Of (d : SD) (ws : List Wd) : Prop where
  e : d.lE = allE ws
  t : d.lT = allT ws
  l : d.lL = allL ws
theorem Of.app {d d' : SD} {ws : List Wd} (h : Of d ws) (x : Wd) (h1 : d'.lE = applyE d.lE x) (h2 : d'.lT = Tg.applyL x d.lT) (h3 : d'.lL = applyS x d.lL) : Of d' (ws ++ [x]) :=
  ⟨by rw [allE_snoc, ← h.e, h1], by rw [allT_snoc, ← h.t, h2], by rw [allL_snoc, ← h.l, h3]⟩
/-- an empty snapshot -/
theorem sn_nil (w : World) : SnAt w [Value.int .i64 0, .int .i64 0, .int .i64 0, .int .u64 0, .slice none 0 0, .slice none 0 0, .slice none 0 0] [] [] [] :=
  ⟨0, 0, 0, 0, none, 0, 0, none, 0, 0, none, 0, 0, rfl, RE.nil _ _ _, Tg.RT.nil _ _ _, Sl.nil _ _ _, rfl⟩
theorem snO_one {w : World} {B : Nat} {cs : List Value} {E : List En} {T : List Tn} {Ls : List Lo} (h : SnO w B cs E T Ls) : ∀ v ∈ cs, v.oneCell' = true := by
  obtain ⟨X, xc, X', xn', xc', X'', xn'', xc'', rfl, _⟩ := h
  intro v hv
  simp only [List.mem_cons, List.not_mem_nil, or_false] at hv
  rcases hv with rfl | rfl | rfl | rfl | rfl | rfl | rfl <;> rfl
/-- two variables take what calls handed back -/
theorem two_vars {w : World} {t : TypeId} {z cs cs' : List Value} {K : Nat → Nat → World → Prop} (hz : z.length = 7) (hl : cs.length = 7) (hl' : cs'.length = 7) (h1 : ∀ v ∈ cs, v.oneCell' = true) (h1' : ∀ v ∈ cs', v.oneCell' = true)
    (hK : ∀ b b' u, Fr (fun _ => False) w u → RecAt u b t cs → RecAt u b' t cs' → K b b' u) :
    nw w z t fun b w1 => nw w1 z t fun b' w2 => gd (cs.length == 7) (st w2 b 0 cs fun w3 => gd (cs'.length == 7) (st w3 b' 0 cs' fun w4 => K b b' w4)) := by
  refine nw_mk (nw_mk (gd_mk (by rw [hl]; rfl) ?_))
  have g1 : Fr (fun _ => False) w (w.alloc (.cells z.toArray t)) := Fr.alloc _ _ _
  have q1 := RecAt.new w z t
  have l1 := q1.lt
  have hw : w.heap.size ≤ w.heap.size := Nat.le_refl _
  generalize hb : w.heap.size = b at q1 l1 hw ⊢
  generalize w.alloc (.cells z.toArray t) = w1 at g1 q1 l1 ⊢
  have g2 : Fr (fun _ => False) w1 (w1.alloc (.cells z.toArray t)) := Fr.alloc _ _ _
  have q2 := RecAt.new w1 z t
  have q1 := q1.fr g2 (fun h => h)
  generalize hb' : w1.heap.size = b' at q2 l1 ⊢
  generalize w1.alloc (.cells z.toArray t) = w2 at g2 q1 q2 ⊢
  refine q1.st_mk (o := 0) (by omega) h1 (fun q1 g3 => gd_mk (by rw [hl']; rfl) ((q2.fr g3 (fun h => by have h : b' = b := h; omega)).st_mk (o := 0) (by omega) h1' (fun q2 g4 => ?_)))
  rw [splice_full (by omega)] at q1
  rw [splice_full (by omega)] at q2
  exact hK _ _ _ (fr_own (fr_own (g1.trans1 g2) g3 (by omega)) g4 (by omega)) (q1.fr g4 (fun h => by have h : b = b' := h; omega)) q2
set_option maxHeartbeats 2000000 in
set_option maxRecDepth 100000 in
theorem forgets_law (A1 : Option Addr) (n1 c1 : Nat) (ws : List Wd) (seg : Int) (w : World) (h1 : WRow w A1 n1 ws) (hn : n1 ≤ 1048576) :
    Calls Tryz.prog 6 #[.slice A1 n1 c1, .int .i64 seg] w fun r w' => r = .returned (.bool true) ∧ Fr (fun _ => False) w w' := by
  refine (F6.of A1 n1 c1 seg w (Q := fun v w' => v = .bool true ∧ Fr (fun _ => False) w w') ?_).mono (fun e w' ⟨v, he, hv, h⟩ => ⟨by rw [he, hv], h⟩)
  have hwl := h1.1
  refine (newS_calls _ [] [] [] w (sn_nil w) (by simp) (by simp) (by simp) (fun e he => by cases he) (fun e he => by cases he)).mono ?_
  rintro r w1 ⟨f1, sb, d, rfl, hs, dE, dT, dL, dp⟩
  refine ⟨_, rfl, (newSZ_calls (d.D sb) _ [] [] [] w1 (fun k hk => (hs.lt hk).2) (sn_nil w1) (by simp) (by simp) (by simp) (fun e he => by cases he) (fun e he => by cases he)).mono ?_⟩
  rintro r w4 ⟨f4, tb, e, rfl, ht, eE, eT, eL, ep, eZ⟩
  have s1 := f1.size
  have s4 := f4.size
  have hduo : Duo w4 w.heap.size sb tb { d with Z := fun k => e.D tb k ∨ blkOf none = some k } e none := by
    refine ⟨hs.move f4 (fun k _ h => h) (fun k h _ => h.elim) (fun k hk => ?_) (fun k hk => ?_), ht.low s1, fun k => Iff.rfl, fun k => ?_, fun k h1 h2 => ?_, (fun k _ h => by cases h), (fun k _ h => by cases h), (fun k h => by cases h)⟩
    · rcases hk with hk | hk
      · exact .inr (ht.lt hk).1
      · cases hk
    · rcases hk with hk | hk
      · exact (ht.lt hk).2
      · cases hk
    · rw [eZ]
      exact ⟨.inl, fun h => h.elim id (fun h => by cases h)⟩
    · have h1 : d.D sb k := h1
      have := (hs.lt h1).2; have := (ht.lt h2).1; omega
  have ofd : Of { d with Z := fun k => e.D tb k ∨ blkOf none = some k } [] := ⟨dE, dT, dL⟩
  have ofe : Of e [] := ⟨eE, eT, eL⟩
  have sbd : SB (10 + 0) { d with Z := fun k => e.D tb k ∨ blkOf none = some k } := SB.nil _ dE dT dL (Nat.le_trans dp (by simp))
  have sbe : SB (10 + 0) e := SB.nil _ eE eT eL (Nat.le_trans ep (by simp))
  refine ⟨_, rfl, jnC_mk (loop_rule (fun s u => ∃ (i : Nat) (d e : SD) (A : Option Addr) (c : Nat), i ≤ n1 ∧ s = ((A1, n1, c1), seg, some ⟨sb, 0, none⟩, some ⟨tb, 0, none⟩, (A, (sgs seg (ws.take i)).length, c), (i : Int), ()) ∧ Fr (fun _ => False) w u ∧ Duo u w.heap.size sb tb d e A ∧
      Row u w.heap.size 3 1 A (sgs seg (ws.take i)).length c (ivs (sgs seg (ws.take i))) ∧ Of d (ws.take i) ∧ Of e (oth seg (ws.take i)) ∧ SB (10 + i) d ∧ SB (10 + i) e)
    (fun s _ => (n1 - s.2.2.2.2.2.1).toNat) ?_ _ _ ⟨0, _, e, none, 0, by omega, rfl, f1.trans1 f4, hduo, Row.nil _ _ _ _, ofd, ofe, sbd, sbe⟩)⟩
  clear hduo ofd ofe sbd sbe hs ht dE dT dL dp eE eT eL ep eZ f1 f4 s1 s4 d e w1 w4
  rintro s u C ⟨i, d, e, A, c, hi, rfl, hf, hD, hR, ofd, ofe, sbd, sbe⟩ hC _
  have hBu := hf.size
  refine vIf_mk (fun hlt => ?_) (fun hge => ?_)
  · have hlt2 : (i : Int) < (n1 : Int) := of_decide_eq_true hlt
    have gi : ws[i]? = some (ws[i]'(by omega)) := List.getElem?_eq_getElem (by omega)
    generalize ws[i]'(by omega) = x at gi
    obtain ⟨b, o, hA1, hcs⟩ := h1.2.2 (by omega)
    have hx : x.d.length = 32 := h1.2.1 x (List.mem_of_getElem? gi)
    have hxl := wd_len hx
    have i0 : decide (0 ≤ (i : Int)) = true := decide_eq_true (by omega)
    have dat : ∀ {z : World}, Fr (fun _ => False) w z → cellsAt z b (o + ((i : Int)).toNat * 39) x.cs := fun fz => by rw [Int.toNat_natCast]; exact fz.cells (hcs i x gi) (fun h => h)
    have dats : ∀ {z : World}, Fr (fun _ => False) w z → cellAt z b ((o + ((i : Int)).toNat * 39) + 36) = some (.int .i64 x.s) := fun fz => dat fz 36 _ (by
      unfold Wd.cs
      rw [List.getElem?_append_right (by simp), List.getElem?_append_right (by simp [hx])]
      simp [hx])
    have hsl : (sgs seg (ws.take i)).length ≤ i := by
      unfold sgs oth
      rw [List.length_map]
      exact Nat.le_trans (List.length_filter_le _ _) (by rw [List.length_take]; omega)
    have hms : ∀ (v : Nat) , ((n1 : Int) - IntKind.wrap .i64 ((i : Int) + 1)).toNat < ((n1 : Int) - (i : Int)).toNat := fun _ => by rw [ei i (by omega)]; omega
    rw [hA1]
    have hb0 : SB 50000000 d := sbd.mono (by omega)
    have hb1 : SB 50000000 e := sbe.mono (by omega)
    refine dr_mk (gd_mk i0 (gd_mk hlt ⟨x.cs, hxl, dat hf, (applyS_calls hD.s x hx hb0 hBu).mono ?_⟩))
    rintro r u1 ⟨rfl, d', st1, p1, p2, p3, p4⟩
    have hD1 := hD.stp st1
    have ofd1 : Of d' (ws.take (i + 1)) := by rw [List.take_add_one, gi]; exact ofd.app x p1 p2 p3
    have sbd1 : SB (10 + (i + 1)) d' := sbd.app x p1 p2 p3 p4
    have hf1 : Fr (fun _ => False) w u1 := hf.trans st1.fr (fun _ _ h => h) (fun k hk h => by have := (hD.s.lt h).1; omega)
    have hR1 := st1.fr.row hR (fun k hk hd => hD.sa k hd hk)
    have sbe1 : SB (10 + i) { e with Z := fun k => d'.D sb k ∨ blkOf A = some k } := ⟨sbe.e, sbe.t, sbe.p, sbe.tl, sbe.ll, sbe.el⟩
    have ofe1 : Of { e with Z := fun k => d'.D sb k ∨ blkOf A = some k } (oth seg (ws.take i)) := ⟨ofe.e, ofe.t, ofe.l⟩
    have hb1 : SB 50000000 { e with Z := fun k => d'.D sb k ∨ blkOf A = some k } := sbe1.mono (by omega)
    generalize { e with Z := fun k => d'.D sb k ∨ blkOf A = some k } = e1 at hD1 sbe1 ofe1 hb1
    refine ⟨rfl, dr_mk (gd_mk i0 (gd_mk hlt ⟨x.s, dats hf1, vIf_mk (fun hne => ?_) (fun heq => jnC_mk (hC _ _ ⟨i + 1, d', e1, A, c, by omega, ?_, hf1, hD1, ?_, ofd1, ?_, sbd1, sbe1.mono (by omega)⟩ (hms 0)))⟩))⟩
    · have hne : x.s ≠ seg := by simpa using hne
      refine dr_mk (gd_mk i0 (gd_mk hlt ⟨x.cs, hxl, dat hf1, (applyS_calls hD1.t x hx hb1 (by have := hf1.size; omega)).mono ?_⟩))
      rintro r u2 ⟨rfl, e2, st2, p1, p2, p3, p4⟩
      have hD2 := (hD1.swap.stp st2).swap
      have ofe2 : Of e2 (oth seg (ws.take (i + 1))) := by rw [oth_out gi hne]; exact ofe1.app x p1 p2 p3
      have sbe2 : SB (10 + (i + 1)) e2 := sbe1.app x p1 p2 p3 p4
      have hf2 : Fr (fun _ => False) w u2 := hf1.trans st2.fr (fun _ _ h => h) (fun k hk h => by have := (hD1.t.lt h).1; omega)
      have hR2 := st2.fr.row hR1 (fun k hk hd => hD1.ta k hd hk)
      refine ⟨rfl, dr_mk (gd_mk i0 (gd_mk hlt ⟨x.s, dats hf2, push_int2 hR2 hf2.size (by show (sgs seg (ws.take i)).length ≤ 2199023255552; omega) (fun A' c' u3 hR3 f3 hA3 => jnC_mk (hC _ _ ⟨i + 1, _, _, A', c', by omega, ?_, ?_, hD2.row f3 hA3 (fun k hk => (hR3.blt hk).2), ?_, ?_, ?_, ?_, ?_⟩ (hms 0)))⟩))⟩
      · have e : (sgs seg (ws.take (i + 1))).length = (sgs seg (ws.take i)).length + 1 := by unfold sgs; rw [oth_out gi hne]; simp
        rw [ei i (by omega), hA1, e]
      · exact hf2.trans f3 (fun _ _ h => h) (fun k hk h => by have := (hR2.blt h).1; omega)
      · have e : sgs seg (ws.take (i + 1)) = sgs seg (ws.take i) ++ [x.s] := by unfold sgs; rw [oth_out gi hne]; simp
        rw [e]
        simpa using hR3
      · exact ⟨ofd1.e, ofd1.t, ofd1.l⟩
      · exact ⟨ofe2.e, ofe2.t, ofe2.l⟩
      · exact ⟨sbd1.e, sbd1.t, sbd1.p, sbd1.tl, sbd1.ll, sbd1.el⟩
      · exact ⟨sbe2.e, sbe2.t, sbe2.p, sbe2.tl, sbe2.ll, sbe2.el⟩
    · have heq : x.s = seg := by simpa using heq
      have e : sgs seg (ws.take (i + 1)) = sgs seg (ws.take i) := by unfold sgs; rw [oth_in gi heq]
      rw [ei i (by omega), hA1, e]
    · have heq : x.s = seg := by simpa using heq
      have e : sgs seg (ws.take (i + 1)) = sgs seg (ws.take i) := by unfold sgs; rw [oth_in gi heq]
      rw [e]; exact hR1
    · have heq : x.s = seg := by simpa using heq
      rw [oth_in gi heq]; exact ofe1
  · have hge2 : ¬ (i : Int) < (n1 : Int) := of_decide_eq_false hge
    rw [List.take_of_length_le (by omega)] at hR ofd ofe ⊢
    have hb0 : SB 50000000 d := sbd.mono (by omega)
    have hb1 : SB 50000000 e := sbe.mono (by omega)
    refine (hereS_calls hD.s seg hb0).mono ?_
    rintro r u1 ⟨f1, A2, c2, rfl, hW⟩
    have hD1 := hD.fr0 f1
    have hf1 := hf.trans1 f1
    refine ⟨_, _, _, rfl, vIf_mk (fun _ => (lives_calls u1).mono ?_) (fun hz => ?_)⟩
    · rintro r u2 ⟨rfl, f2⟩
      exact ⟨_, rfl, rfl, hf1.trans1 f2⟩
    · have hz : (herL seg d.lE d.lT).length = 0 := by
        have := of_decide_eq_false hz
        omega
      have hnil := List.length_eq_zero_iff.1 hz
      rw [ofd.e, ofd.t] at hnil
      obtain ⟨hnE, hnT⟩ := her_nil hnil
      have hg : ∀ x ∈ ws, x.s ≠ seg → x.s ∈ sgs seg ws := fun x hx hne => List.mem_map.2 ⟨x, List.mem_filter.2 ⟨hx, by simpa using hne⟩, rfl⟩
      have hno : seg ∉ sgs seg ws := fun h => by
        obtain ⟨x, hx, he⟩ := List.mem_map.1 h
        have := (List.mem_filter.1 hx).2
        simp at this
        exact this he
      have kE := forgetE hnE hg hno
      have kT := forgetT hnT hg hno
      have kL := forgetL hg hno
      have hsl : (sgs seg ws).length ≤ 1048576 := by
        unfold sgs oth
        rw [List.length_map]
        exact Nat.le_trans (List.length_filter_le _ _) (by omega)
      have hR1 := f1.row hR (fun _ _ h => h)
      refine (keepS_calls hD1.s A _ c (sgs seg ws) hR1.sl (fun _ k hk hd => hD1.sa k hd hk) (by omega) hb0 hf1.size).mono ?_
      rintro r u2 ⟨rfl, d', st2, p1, p2, p3, p4⟩
      have hD2 := hD1.stp st2
      have hf2 : Fr (fun _ => False) w u2 := hf1.trans st2.fr (fun _ _ h => h) (fun k hk h => by have := (hD1.s.lt h).1; omega)
      have hb2 : SB 50000000 d' := hb0.kept (sgs seg ws) p1 p2 p3 p4
      refine ⟨rfl, (snapS_calls hD2.s hb2).mono ?_⟩
      rintro r u3 ⟨f3, xs, rfl, hx⟩
      have hb3 : SB 50000000 { e with Z := fun k => d'.D sb k ∨ blkOf A = some k } := ⟨hb1.e, hb1.t, hb1.p, hb1.tl, hb1.ll, hb1.el⟩
      refine ⟨xs, rfl, (snapS_calls (hD2.t.fr0 f3) hb3).mono ?_⟩
      rintro r u4 ⟨f4, ys, rfl, hy⟩
      have hy : SnO u4 u3.heap.size ys e.lE e.lT (loadsL e.lE e.lT e.lL) := hy
      have eE : d'.lE = e.lE := by rw [p1, ofd.e, kE, ofe.e]; rfl
      have eT : d'.lT = e.lT := by rw [p2, ofd.t, kT, ofe.t]; rfl
      have eL : d'.lL = e.lL := by rw [p3, ofd.l, kL, ofe.l]; rfl
      rw [eE, eT, eL] at hx
      have hx := hx.fr0 f4
      have f34 := f3.trans1 f4
      have hf4 := hf2.trans1 f34
      have xl := hx.len
      have yl := hy.len
      refine ⟨ys, rfl, two_vars rfl xl yl (snO_one hx) (snO_one hy) (fun b45 b47 u8 g8 q1 q2 => ?_)⟩
      have hx := hx.fr0 g8
      have hy := hy.fr0 g8
      have hf8 := hf4.trans1 g8
      obtain ⟨X, xc, X', xn', xc', X'', xn'', xc'', rfl, x1, x2, x3, x4⟩ := hx
      obtain ⟨Y, yc, Y', yn', yc', Y'', yn'', yc'', rfl, y1, y2, y3, y4⟩ := hy
      have b1' := hb1.el
      have b2' := hb1.tl
      have b3' := hb1.ll
      have xt := x2.len
      have hll := loadsL_len e.lE e.lT e.lL
      refine ⟨X, _, xc, q1.cell rfl, Y, _, yc, q2.cell rfl, (sameLE_calls X _ xc Y _ yc e.lE u8 x1 y1 (by omega) (hb1.e.mono (by omega))).mono ?_⟩
      rintro r u9 ⟨rfl, f9⟩
      have q1 := q1.fr f9 (fun h => h)
      have q2 := q2.fr f9 (fun h => h)
      refine ⟨_, rfl, vIf_t rfl ⟨X', xn', xc', q1.cell rfl, Y', yn', yc', q2.cell rfl, (Tg.sameL_calls X' xn' xc' Y' yn' yc' e.lT u9 (x2.fr0 f9) (y2.fr0 f9) (by omega) (fun y hy => by have := hb1.t y hy; omega)).mono ?_⟩⟩
      rintro r u10 ⟨rfl, f10⟩
      have q1 := q1.fr f10 (fun h => h)
      have q2 := q2.fr f10 (fun h => h)
      have g10 := f9.trans1 f10
      refine ⟨_, rfl, vIf_t rfl ⟨X'', xn'', xc'', q1.cell rfl, Y'', yn'', yc'', q2.cell rfl, (sameLo_calls X'' xn'' xc'' Y'' yn'' yc'' (loadsL e.lE e.lT e.lL) u10 (g10.sl x3 (fun _ _ _ h => h)) x4 (g10.sl y3 (fun _ _ _ h => h)) y4 (by omega)).mono ?_⟩⟩
      rintro r u11 ⟨rfl, f11⟩
      refine ⟨_, rfl, vIf_t rfl ((lives_calls u11).mono ?_)⟩
      rintro r u12 ⟨rfl, f12⟩
      exact ⟨_, rfl, rfl, ((hf8.trans1 g10).trans1 f11).trans1 f12⟩
end Go.Proofs.YthcclmlbkfadcaaGreat
/- chapter 22: opening a digest -/
namespace Go.Proofs.YthcclmlbkfadcaaGreat
open Go.GV Go.ChangeShapes Go.WideShapes Go.ChangeAt Go.RowKit
set_option linter.unusedVariables false
end Go.Proofs.YthcclmlbkfadcaaGreat
