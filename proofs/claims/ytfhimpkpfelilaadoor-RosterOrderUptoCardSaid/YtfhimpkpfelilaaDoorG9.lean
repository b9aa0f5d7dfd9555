/- MY OWN ENGINE, part 9: opening a statement's arguments, and closing it. -/
import Derived.Test.YtfhimpkpfelilaaDoorG8
import Derived.ProofKit
import Derived.WalkKit
import Derived.OpenShut
import Derived.OpenVars
import Derived.JoinedCond
namespace Go.GV
open Go Go.RowKit Go.ChangeShapes Go.WideShapes Go.ChangeAt
set_option linter.unusedSimpArgs false
set_option linter.unusedVariables false
section
variable {H : Type} {enc : TypeId × Value → H} {P : Program}
def readable (P : Program) (ts : List TypeId) : Bool := ts.all fun t => P.readableRec t && decide (t < P.types.size)
theorem trodAll_stays (hl : laidOutB P = true) {W W' : World} (hb : Below W.heap.size W W') : ∀ {ts : List TypeId} {vs : List Value} {ds : List (DataW H)} {ps : List MemPlace}, readable P ts = true →
    DataW.TrodAll enc P W 0 (fun _ => true) true ts vs ds ps → (∀ x ∈ ps, x.block < W.heap.size) → DataW.TrodAll enc P W' 0 (fun b => decide (b < W.heap.size)) true ts vs ds ps
  | [], vs, ds, ps, _, h, _ => by
    obtain ⟨rfl, rfl, rfl⟩ := trodAll_nil h
    exact trodAll_mk0
  | t :: ts, vs, ds, ps, hr, h, hp => by
    obtain ⟨v, vs', d, ds', p, q, rfl, rfl, rfl, h1, h2⟩ := trodAll_cons h
    simp only [readable, List.all_cons, Bool.and_eq_true, decide_eq_true_eq] at hr
    refine trodAll_cons_mk (Below.trod hl hr.1.1 hr.1.2 h1 hb (fun x hx => hp x (by simp [hx]))) (trodAll_stays hl hb ?_ h2 (fun x hx => hp x (by simp [hx])))
    simpa [readable] using hr.2
theorem Fr.keptBut {W W' : World} (h : Fr (fun _ => False) W W') (may : MemPlace → Prop) : W.keptBut W' may := by
  refine ⟨h.os, h.output, fun i hi => ?_⟩
  rw [h.block i hi (fun h => h)]
  exact (World.keptBut_refl W may).2.2 i hi
/-- A law that answered true and changed nothing that was there. -/
theorem close_true (hl : laidOutB P = true) {f : Func} {s : ChangeSpec} {W W' : World} {args : Array Value} {ds gs : List (DataW H)} {before : List MemPlace} {tb : TypeId}
    (hr : readable P f.params.toList = true) (hv : varsRowed P s.vars = true) (hrt : f.resultTypes = #[tb]) (hb : P.underlying tb = some .bool)
    (hW : DataW.Whole enc P f.params.toList s.vars false W args.toList ds gs before)
    (h1 : (s.fn H (ds ++ gs)).results = [.lit (.bool true)]) (h2 : (s.fn H (ds ++ gs)).args = ds) (h3 : (s.fn H (ds ++ gs)).vars = gs)
    (hf : Fr (fun _ => False) W W') : s.post enc P f false true false false W args (.bool true) W' := by
  have hlt := hW.lt
  obtain ⟨p, q, hA, hV, rfl, hz, hn⟩ := hW
  have hB : Below W.heap.size W W' := ⟨hf.os, hf.tape, hf.output, hf.size, fun k hk => hf.block k hk (fun h => h)⟩
  refine ⟨ds, gs, p ++ q, [], p, q, ⟨p, q, hA, hV, rfl, hz, hn⟩, ?_, ?_, ?_, hf.keptBut _, fun h => by cases h⟩
  · rw [h1, hrt]
    exact trodAll_cons_mk (shut_bool hb _) trodAll_mk0
  · rw [h2]
    exact trodAll_stays hl hB hr hA (fun x hx => hlt x (by simp [hx]))
  · rw [h3]
    exact Below.trodVars hl hB hv hV
/-- bytes that come in -/
theorem open_bytesV {W : World} {t e : TypeId} {v : Value} {d : DataW H} {ps : List MemPlace} (ht : P.underlying t = some (.slice e)) (he : P.underlying e = some (.int .u8)) (hc : P.cellsOf e = 1)
    (hval : Value.okWide P W .any 0 t v) (h : DataW.Trod enc P W 0 (fun _ => true) true t v d ps) :
    ∃ (A : Option Addr) (n c : Nat) (l : List UInt8), v = .slice A n c ∧ Sl W 1 A n (l.map bv) ∧ n ≤ c ∧ c ≤ maxLen ∧ ((d = .nil ∧ A = none ∧ n = 0) ∨ ∃ es sp, d = .slice es sp ∧ es.length = n ∧ es.length + sp.length = c) := by
  obtain ⟨fuel, h⟩ := h
  have cell : ∀ u, v.cells.toList = [u] → (∃ A n c, u = .slice A n c) → v = u := by
    intro u hu hs
    obtain ⟨A, n, c, rfl⟩ := hs
    cases v with
    | agg cs =>
      exfalso
      simp [Value.okWide, Cell.okWide, Cell.ok, ht] at hval
    | _ => simp_all [Value.cells]
  rcases open_ints ht he hc h with ⟨h1, h2⟩ | ⟨a, len, cap, zs, h1, hb, hlc, hcm, hzl, h2, hcell, hwf⟩
  · have := cell _ h1 ⟨_, _, _, rfl⟩
    subst this
    injection h2 with h2 _
    exact ⟨none, 0, 0, [], rfl, Sl.nil _ _ _, Nat.le_refl _, Nat.zero_le _, .inl ⟨h2, rfl, rfl⟩⟩
  · have := cell _ h1 ⟨_, _, _, rfl⟩
    subst this
    injection h2 with h2 _
    have hzl' : zs.length = cap := by simpa using hzl
    have hspot : len ≠ 0 → a.spot = none := fun h0 => by
      have h3 := hcell 0 (by omega)
      cases hs : a.spot with
      | none => rfl
      | some sp =>
        exfalso
        revert h3
        simp only [World.cell?, Addr.add, hs, Option.isSome_some, if_true, Nat.add_zero]
        split <;> simp
    have each : ∀ z ∈ zs, 0 ≤ z ∧ z < 256 := fun z hz => by
      have := hwf z hz
      simp only [Lit.wf, IntKind.has, Bool.and_eq_true, decide_eq_true_eq] at this
      have h1 : IntKind.u8.min = 0 := by decide
      have h2 : IntKind.u8.max = 255 := by decide
      omega
    refine ⟨some a, len, cap, (zs.take len).map (fun z => UInt8.ofNat z.toNat), rfl, ⟨by simp; omega, fun h0 => ⟨a.block, a.off, ?_, ?_⟩⟩, hlc, hcm, .inr ⟨_, _, h2, by simp [lits]; omega, by simp [lits]; omega⟩⟩
    · have := hspot h0
      cases a; simp_all
    · intro j u hj
      rw [List.getElem?_map, List.getElem?_map, List.getElem?_take] at hj
      split at hj
      · rename_i hjl
        have hjz : j < zs.length := by omega
        rw [List.getElem?_eq_getElem hjz] at hj
        simp only [Option.map_some, Option.some.injEq] at hj
        subst hj
        have h3 := hcell j hjz
        rw [List.getD_eq_getElem?_getD, List.getElem?_eq_getElem hjz, Option.getD_some] at h3
        have hz := each _ (List.getElem_mem hjz)
        have ha : a.add j = ⟨a.block, a.off + j, none⟩ := by
          have := hspot h0
          obtain ⟨ab, ao, asp⟩ := a
          simp only at this
          subst this
          exact add_none _ _ _
        rw [ha] at h3
        unfold cellAt
        rw [h3]
        unfold bv
        congr 2
        simp; omega
      · simp at hj
end
end Go.GV
