/- deeds: a kind, a word, segments; rows of them -/
import Derived.Test.YtnablplljilahaaLWdF
namespace Go.Proofs.Ytnablplljilahaa
open Go.GV Go.RowKit Go.Lib
set_option linter.unusedVariables false
set_option linter.unusedSimpArgs false
structure Dd where
  kind : Int
  x : Wd
  sg : List Int
def DdAt (w : World) (cs : List Value) (d : Dd) : Prop := ∃ S m k, cs = [Value.int .i64 d.kind] ++ (d.x.cs ++ [.slice S m k]) ∧ Sl w 1 S m (ivs d.sg) ∧ d.x.d.length = 32 ∧ m ≤ 1048576
theorem DdAt.fr {w w' : World} {cs : List Value} {d : Dd} (h : DdAt w cs d) (f : Fr (fun _ => False) w w') : DdAt w' cs d := by
  obtain ⟨S, m, k, h1, h2, h3, h4⟩ := h
  exact ⟨S, m, k, h1, sl_fr h2 f, h3, h4⟩
/-- a row of deeds -/
def DRow (w : World) (A : Option Addr) (n : Nat) (l : List Dd) : Prop := l.length = n ∧ (n ≠ 0 → ∃ b o, A = some ⟨b, o, none⟩ ∧ ∀ (i : Nat) (d : Dd), l[i]? = some d → ∃ cs, DdAt w cs d ∧ cellsAt w b (o + i * 41) cs)
theorem DRow.fr {w w' : World} {A : Option Addr} {n : Nat} {l : List Dd} (h : DRow w A n l) (f : Fr (fun _ => False) w w') : DRow w' A n l := by
  refine ⟨h.1, fun h0 => ?_⟩
  obtain ⟨b, o, hA, hc⟩ := h.2 h0
  refine ⟨b, o, hA, fun i d hi => ?_⟩
  obtain ⟨cs, h1, h2⟩ := hc i d hi
  exact ⟨cs, h1.fr f, f.cells h2 (fun h => h)⟩
/-- a deed's parts, where it lies -/
theorem dd_kind {w : World} {b p : Nat} {d : Dd} {S : Option Addr} {m k : Nat} (h : cellsAt w b p ([Value.int .i64 d.kind] ++ (d.x.cs ++ [.slice S m k]))) : cellAt w b p = some (.int .i64 d.kind) := h 0 _ rfl
theorem dd_word {w : World} {b p : Nat} {d : Dd} {S : Option Addr} {m k : Nat} (h : cellsAt w b p ([Value.int .i64 d.kind] ++ (d.x.cs ++ [.slice S m k]))) : cellsAt w b (p + 1) d.x.cs := fun j v hj => by
  have hj' := (List.getElem?_eq_some_iff.1 hj).1
  rw [Nat.add_assoc]
  refine h (1 + j) v ?_
  rw [List.getElem?_append_right (by simp), List.getElem?_append_left (by simp; omega)]
  simpa using hj
theorem dd_segs {w : World} {b p : Nat} {d : Dd} {S : Option Addr} {m k : Nat} (hx : d.x.d.length = 32) (h : cellsAt w b p ([Value.int .i64 d.kind] ++ (d.x.cs ++ [.slice S m k]))) : cellAt w b (p + 40) = some (.slice S m k) := by
  refine h 40 _ ?_
  have : d.x.cs.length = 39 := by simp [Wd.cs, hx]
  rw [List.getElem?_append_right (by simp), List.getElem?_append_right (by simp [this])]
  simp [this]
theorem wd_dig {w : World} {b p : Nat} {x : Wd} (h : cellsAt w b p x.cs) : cellsAt w b (p + 2) (x.d.map bv) := fun j v hj => by
  have hj' := (List.getElem?_eq_some_iff.1 hj).1
  rw [Nat.add_assoc]
  refine h (2 + j) v ?_
  unfold Wd.cs
  rw [List.getElem?_append_right (by simp), List.getElem?_append_left (by simpa using hj')]
  simpa using hj
/-- rows of words -/
def WRow (w : World) (A : Option Addr) (n : Nat) (l : List Wd) : Prop := l.length = n ∧ (∀ x ∈ l, x.d.length = 32) ∧ (n ≠ 0 → ∃ b o, A = some ⟨b, o, none⟩ ∧ ∀ (i : Nat) (x : Wd), l[i]? = some x → cellsAt w b (o + i * 39) x.cs)
theorem WRow.fr {w w' : World} {A : Option Addr} {n : Nat} {l : List Wd} (h : WRow w A n l) (f : Fr (fun _ => False) w w') : WRow w' A n l := by
  refine ⟨h.1, h.2.1, fun h0 => ?_⟩
  obtain ⟨b, o, hA, hc⟩ := h.2.2 h0
  exact ⟨b, o, hA, fun i x hi => f.cells (hc i x hi) (fun h => h)⟩
end Go.Proofs.Ytnablplljilahaa
