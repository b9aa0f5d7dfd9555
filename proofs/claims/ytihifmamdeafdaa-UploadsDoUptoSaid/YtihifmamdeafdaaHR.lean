/- chapter 37: the document's own functions -/
import Derived.Test.YtihifmamdeafdaaHP
import Derived.Test.YtihifmamdeafdaaG12
namespace Go.Proofs.Ytihifmamdeafdaa
open Go.GV Go.RowKit
set_option linter.unusedVariables false
set_option linter.unusedSimpArgs false
structure Up where
  id : Int
  l : List UInt8
  A : Option Addr
  n : Nat
  c : Nat
def Up.e (x : Up) : Ent := (x.id, x.l)
def ucs (x : Up) : List Value := [.int .i64 x.id, .slice x.A x.n x.c]
def rcs (E : List Up) : List Value := (E.map ucs).flatten
theorem rcs_flat (E : List Up) : (rcs E).length = E.length * 2 ∧ ∀ (i : Nat) (x : Up) (j : Nat), E[i]? = some x → j < 2 → (rcs E)[i * 2 + j]? = (ucs x)[j]? := by
  obtain ⟨h1, h2⟩ := flatten_get (vss := E.map ucs) (k := 2) (fun i v hv => by
    rw [List.getElem?_map] at hv
    cases hr : E[i]? with
    | none => rw [hr] at hv; cases hv
    | some x => rw [hr] at hv; injection hv with hv; subst hv; rfl)
  refine ⟨by unfold rcs; rw [h1, List.length_map], fun i x j hi hj => h2 i _ j (by rw [List.getElem?_map, hi]; rfl) hj⟩
theorem rcs_app (a b : List Up) : rcs (a ++ b) = rcs a ++ rcs b := by simp [rcs]
theorem rcs_one (x : Up) : rcs [x] = ucs x := by simp [rcs]
theorem rcs_oneCell (E : List Up) : ∀ v ∈ rcs E, v.oneCell' = true := by
  intro v hv
  simp only [rcs, List.mem_flatten, List.mem_map] at hv
  obtain ⟨l, ⟨x, _, rfl⟩, hv⟩ := hv
  simp only [ucs, List.mem_cons, List.not_mem_nil, or_false] at hv
  rcases hv with rfl | rfl <;> rfl
theorem ei (i : Nat) (h : i < 1099511627776) : IntKind.wrap .i64 ((i : Int) + 1) = ((i + 1 : Nat) : Int) := by rw [i64_id (by omega) (by omega)]; rfl
theorem own_fr {w u v : World} {e : TypeId} {sz : Nat} {A : Option Addr} {n c : Nat} {vs : List Value} (f : Fr (fun _ => False) w u) (hr : Row u w.heap.size e sz A n c vs) (g : Fr (fun k => blkOf A = some k) u v) : Fr (fun _ => False) w v :=
  f.trans g (fun _ _ h => h) (fun k hk h' => by have := (hr.blt h').1; omega)
theorem fr_own {w u v : World} {b : Nat} (f : Fr (fun _ => False) w u) (g : Fr (fun j => j = b) u v) (hb : w.heap.size ≤ b) : Fr (fun _ => False) w v := f.trans g (fun _ _ h => h) (fun k hk h' => by omega)
theorem row_low {u : World} {B B' : Nat} {e : TypeId} {sz : Nat} {A : Option Addr} {k c : Nat} {vs : List Value} (hB : B' ≤ B) (hr : Row u B e sz A k c vs) : Row u B' e sz A k c vs := by
  refine ⟨hr.len, hr.le, ?_⟩
  rcases hr.at_ with h' | ⟨b', cs', q1, q2, q3⟩
  · exact .inl h'
  · exact .inr ⟨b', cs', q1, by omega, q3⟩
theorem Row_elem_ne {w : World} {B B' : Nat} {e e' : TypeId} {sz sz' : Nat} {A A' : Option Addr} {n c n' c' : Nat} {vs vs' : List Value} (h : Row w B e sz A n c vs) (h' : Row w B' e' sz' A' n' c' vs') (he : e ≠ e') : ∀ k, blkOf A' = some k → ¬ blkOf A = some k := by
  intro k h1 h2
  rcases h.at_ with ⟨rfl, _⟩ | ⟨b, cs, rfl, _, hb, _⟩
  · simp [blkOf] at h2
  rcases h'.at_ with ⟨rfl, _⟩ | ⟨b', cs', rfl, _, hb', _⟩
  · simp [blkOf] at h1
  simp only [blkOf, Option.some.injEq] at h1 h2
  subst h1; subst h2
  rw [hb] at hb'
  injection hb' with hb'
  injection hb' with _ h3 _
  exact he h3
theorem Row_rec_ne {w : World} {B : Nat} {e e' : TypeId} {sz : Nat} {A : Option Addr} {n c b : Nat} {vs cs : List Value} (h : Row w B e sz A n c vs) (h' : RecAt w b e' cs) (he : e ≠ e') : ∀ k, blkOf A = some k → ¬ k = b := by
  intro k h1 h2
  rcases h.at_ with ⟨rfl, _⟩ | ⟨b1, cs1, rfl, _, hb, _⟩
  · simp [blkOf] at h1
  simp only [blkOf, Option.some.injEq] at h1
  subst h1; subst h2
  rw [h'] at hb
  injection hb with hb
  injection hb with _ h3 _
  exact he h3.symm
abbrev BS (w : World) (B : Nat) (x : Up) : Prop := Row w B 5 1 x.A x.n x.c (x.l.map bv)
def RfAt (w : World) (B : Nat) (cs : List Value) (E : List Up) (last : Int) : Prop := ∃ A n c, cs = [.slice A n c, .int .i64 last] ∧ Row w B 52 2 A n c (rcs E) ∧ ∀ x ∈ E, BS w B x
theorem RfAt.fr {S : Nat → Prop} {w w' : World} {B : Nat} {cs : List Value} {E : List Up} {last : Int} (h : RfAt w B cs E last) (f : Fr S w w') (hS : ∀ k, B ≤ k → ¬ S k) : RfAt w' B cs E last := by
  obtain ⟨A, n, c, h1, h2, h3⟩ := h
  exact ⟨A, n, c, h1, f.row h2 (fun k hk => hS k (h2.blt hk).1), fun x hx => f.row (h3 x hx) (fun k hk => hS k ((h3 x hx).blt hk).1)⟩
theorem RfAt.fr0 {w w' : World} {B : Nat} {cs : List Value} {E : List Up} {last : Int} (h : RfAt w B cs E last) (f : Fr (fun _ => False) w w') : RfAt w' B cs E last := h.fr f (fun _ _ h => h)
theorem RfAt.len {w : World} {B : Nat} {cs : List Value} {E : List Up} {last : Int} (h : RfAt w B cs E last) : cs.length = 2 := by
  obtain ⟨A, n, c, h1, _⟩ := h
  rw [h1]; rfl
theorem RfAt.one {w : World} {B : Nat} {cs : List Value} {E : List Up} {last : Int} (h : RfAt w B cs E last) : ∀ v ∈ cs, v.oneCell' = true := by
  obtain ⟨A, n, c, h1, _⟩ := h
  rw [h1]
  exact one2 rfl rfl
theorem up_n {w : World} {A : Option Addr} {n : Nat} {E : List Up} (h : Sl w 2 A n (rcs E)) : E.length = n := by
  have := h.1
  rw [(rcs_flat E).1] at this
  omega
/-- an element is read -/
theorem up_at {w : World} {A : Option Addr} {n : Nat} {E : List Up} (h : Sl w 2 A n (rcs E)) {i : Nat} {x : Up} (hx : E[i]? = some x) : ∃ b o, A = some ⟨b, o, none⟩ ∧ cellsAt w b (o + i * 2) (ucs x) := by
  have hi := (List.getElem?_eq_some_iff.1 hx).1
  have := up_n h
  obtain ⟨b, o, hA, hc⟩ := h.2 (by omega)
  refine ⟨b, o, hA, fun j v hj => ?_⟩
  have hj2 : j < 2 := (List.getElem?_eq_some_iff.1 hj).1
  rw [Nat.add_assoc]
  exact hc _ v (by rw [(rcs_flat E).2 i x j hx hj2]; exact hj)
theorem push_up {w : World} {B : Nat} {A : Option Addr} {n c : Nat} {out : List Up} {x : Up} {K : Option Addr → Nat → Nat → World → Prop} (hr : Row w B 52 2 A n c (rcs out)) (hB : B ≤ w.heap.size) (hn : n ≤ 1099511627776)
    (hK : ∀ A' c' w', Row w' B 52 2 A' (n + 1) c' (rcs (out ++ [x])) → Fr (fun k => blkOf A = some k) w w' → K A' (n + 1) c' w') : nw w (ucs x ++ []) 52 fun b w' => app w' 2 32 [Value.int .i64 0, Value.slice none 0 0] 52 A n c (.slice (some ⟨b, 0, none⟩) 1 1) K := by
  refine nw_mk ?_
  rw [List.append_nil]
  have f1 : Fr (fun _ => False) w (w.alloc (.cells (ucs x).toArray 52)) := Fr.alloc _ _ _
  have r1 : Row (w.alloc (.cells (ucs x).toArray 52)) 0 52 2 (some ⟨w.heap.size, 0, none⟩) 1 1 (rcs [x]) := by rw [rcs_one]; exact Row.new (Nat.zero_le _) rfl
  have hs : (w.alloc (.cells (ucs x).toArray 52)).heap.size = w.heap.size + 1 := alloc_size _ _
  generalize w.alloc (.cells (ucs x).toArray 52) = w1 at f1 r1 hs ⊢
  refine app_row (f1.row hr (fun _ _ h => h)) r1.sl.src (rcs_oneCell [x]) rfl (by omega) (by omega) (by omega) (fun A' c' w' hr' f' => hK A' c' w' (by rw [rcs_app]; exact hr') ?_)
  exact f1.trans f' (fun _ _ h => h.elim) (fun _ _ h => h)
theorem rec_all {w : World} {b : Nat} {t : TypeId} {cs : List Value} (h : RecAt w b t cs) : cellsAt w b 0 cs := h.cells (o := 0) (fun q v hq => by rw [Nat.zero_add]; exact hq)
/-- a block of two cells is written whole -/
theorem st2 {w : World} {b : Nat} {t : TypeId} {z vs : List Value} {K : World → Prop} (h : RecAt w b t z) (hz : z.length = 2) (hl : vs.length = 2) (h1 : ∀ v ∈ vs, v.oneCell' = true)
    (hK : ∀ w', Fr (fun j => j = b) w w' → RecAt w' b t vs → K w') : st w b 0 vs K := by
  refine h.st_mk (o := 0) (by omega) h1 (fun r f => ?_)
  rw [splice_full (by omega)] at r
  exact hK _ f r
/-- .. and read again -/
theorem st2r {w : World} {b : Nat} {t : TypeId} {z vs : List Value} {K : List Value → World → Prop} (h : RecAt w b t z) (hz : z.length = 2) (hl : vs.length = 2) (h1 : ∀ v ∈ vs, v.oneCell' = true)
    (hK : ∀ w', Fr (fun j => j = b) w w' → K vs w') : st w b 0 vs fun w' => ldA 2 w' b 0 fun a => K a w' :=
  st2 h hz hl h1 (fun w' f r => ⟨vs, hl, rec_all r, hK w' f⟩)
theorem nw2 {w : World} {c1 c5 : List Value} {t1 t5 : TypeId} {K : Nat → Nat → World → Prop}
    (hK : ∀ b1 b5 u, Fr (fun _ => False) w u → RecAt u b1 t1 c1 → RecAt u b5 t5 c5 → w.heap.size ≤ b1 → w.heap.size ≤ b5 → b1 ≠ b5 → K b1 b5 u) :
    nw w c1 t1 fun b1 w2 => nw w2 c5 t5 fun b5 w6 => K b1 b5 w6 := by
  refine nw_mk (nw_mk ?_)
  have f1 : Fr (fun _ => False) w (w.alloc (.cells c1.toArray t1)) := Fr.alloc _ _ _
  have r1 := RecAt.new w c1 t1
  have s1 : (w.alloc (.cells c1.toArray t1)).heap.size = w.heap.size + 1 := alloc_size _ _
  generalize w.alloc (.cells c1.toArray t1) = w1 at f1 r1 s1 ⊢
  have f2 : Fr (fun _ => False) w1 (w1.alloc (.cells c5.toArray t5)) := Fr.alloc _ _ _
  have r2 := RecAt.new w1 c5 t5
  exact hK _ _ _ (f1.trans1 f2) (r1.fr f2 (fun h => h)) r2 (Nat.le_refl _) (by omega) (by omega)
/-! ### Find -/
def ufind (E : List Up) (id : Int) : Option Up := E.find? (fun x => x.id == id)
theorem ufind_e (E : List Up) (id : Int) : rfind (E.map Up.e) id = (ufind E id).map (·.l) := by
  unfold rfind ufind
  rw [List.find?_map, Option.map_map]
  rfl
theorem ufind_mem {E : List Up} {id : Int} {x : Up} (h : ufind E id = some x) : x ∈ E := List.mem_of_find?_eq_some h
def fndV : Option Up → Value
  | none => .tuple #[.slice none 0 0, .bool false]
  | some x => .tuple #[.slice x.A x.n x.c, .bool true]
theorem find_step {E : List Up} {id : Int} {i : Nat} {x : Up} (hx : E[i]? = some x) (h : ∀ y ∈ E.take i, y.id ≠ id) : (x.id = id → ufind E id = some x) ∧ (x.id ≠ id → ∀ y ∈ E.take (i + 1), y.id ≠ id) := by
  have hi := (List.getElem?_eq_some_iff.1 hx).1
  constructor
  · intro he
    unfold ufind
    have : E = E.take i ++ (x :: E.drop (i + 1)) := by
      have h1 := List.take_append_drop i E
      rw [List.drop_eq_getElem_cons hi, (List.getElem?_eq_some_iff.1 hx).2] at h1
      exact h1.symm
    rw [this, List.find?_append, List.find?_eq_none.2 (fun y hy => by simpa using h y hy), Option.none_or, List.find?_cons_of_pos (by simpa using he)]
  · intro hn y hy
    rw [List.take_add_one, hx] at hy
    rcases List.mem_append.1 hy with h1 | h1
    · exact h y h1
    · simp at h1; subst h1; exact hn
theorem rfind_calls (B : Nat) (cs : List Value) (E : List Up) (last id : Int) (w : World) (h : RfAt w B cs E last) (hn : E.length ≤ 1099511627775) :
    Calls Try.prog 16 #[ofL cs, .int .i64 id] w fun r w' => Fr (fun _ => False) w w' ∧ r = .returned (fndV (ufind E id)) := by
  refine (F16.of cs id w (Q := fun v w' => Fr (fun _ => False) w w' ∧ v = fndV (ufind E id)) ?_).mono (fun e w' ⟨v, he, hf, hv⟩ => ⟨hf, by rw [he, hv]⟩)
  obtain ⟨A, n, c, rfl, hr, hb⟩ := h
  have hl := up_n hr.sl
  refine nw_mk (jnC_mk ?_)
  have f1 : Fr (fun _ => False) w (w.alloc (.cells [Value.slice A n c, .int .i64 last].toArray 38)) := Fr.alloc _ _ _
  have r1 := RecAt.new w [Value.slice A n c, .int .i64 last] 38
  generalize w.alloc (.cells [Value.slice A n c, .int .i64 last].toArray 38) = u at f1 r1 ⊢
  have hru := f1.row hr (fun _ _ h => h)
  refine loop_rule (fun s v => v = u ∧ ∃ i : Nat, i ≤ n ∧ s = (id, (w.heap.size, 0), (i : Int), ()) ∧ ∀ y ∈ E.take i, y.id ≠ id) (fun s _ => (n - s.2.2.1).toNat) ?_ _ _ ⟨rfl, 0, by omega, rfl, by simp⟩
  rintro s v C ⟨rfl, i, hi, rfl, hno⟩ hC _
  refine ⟨A, n, c, r1.cell rfl, vIf_mk (fun hlt => ?_) (fun hge => ?_)⟩
  · have hlt2 : (i : Int) < (n : Int) := of_decide_eq_true hlt
    have gi : E[i]? = some (E[i]'(by omega)) := List.getElem?_eq_getElem (by omega)
    obtain ⟨h1, h2⟩ := find_step gi hno
    generalize E[i]'(by omega) = x at gi h1 h2
    obtain ⟨b, o, hA, hc⟩ := up_at hru.sl gi
    subst hA
    have d0 : decide (0 ≤ (i : Int)) = true := decide_eq_true (by omega)
    have c0 : cellAt v b (o + ((i : Int)).toNat * 2) = some (.int .i64 x.id) := by rw [Int.toNat_natCast]; exact hc 0 _ rfl
    have c1 : cellAt v b ((o + ((i : Int)).toNat * 2) + 1) = some (.slice x.A x.n x.c) := by rw [Int.toNat_natCast]; exact hc 1 _ rfl
    refine ⟨_, n, c, r1.cell rfl, dr_mk (gd_mk d0 (gd_mk hlt ⟨x.id, c0, vIf_mk (fun he => ?_) (fun hne => ?_)⟩))⟩
    · have he : x.id = id := by simpa using he
      refine ⟨_, n, c, r1.cell rfl, dr_mk (gd_mk d0 (gd_mk hlt ⟨x.A, x.n, x.c, c1, f1, ?_⟩))⟩
      rw [h1 he]; rfl
    · have hne : x.id ≠ id := by simpa using hne
      refine jnC_mk (hC _ _ ⟨rfl, i + 1, by omega, by rw [ei i (by omega)], h2 hne⟩ ?_)
      show ((n : Int) - IntKind.wrap .i64 ((i : Int) + 1)).toNat < ((n : Int) - (i : Int)).toNat
      rw [ei i (by omega)]; omega
  · have hge2 : ¬ (i : Int) < (n : Int) := of_decide_eq_false hge
    rw [List.take_of_length_le (by omega)] at hno
    refine ⟨f1, ?_⟩
    have : ufind E id = none := List.find?_eq_none.2 (fun y hy => by simpa using hno y hy)
    rw [this]; rfl
/-! ### Begin -/
set_option maxHeartbeats 1000000 in
theorem rbegin_calls (B : Nat) (cs : List Value) (E : List Up) (last : Int) (w : World) (h : RfAt w B cs E last) (hB : B ≤ w.heap.size) (hn : E.length ≤ 1073741824) (hl0 : 0 ≤ last) (hl1 : last < 4611686018427387904) :
    Calls Try.prog 12 #[ofL cs] w fun r w' => Fr (fun _ => False) w w' ∧ ∃ cs' E', r = .returned (.tuple #[ofL cs', .int .i64 (rbegin (E.map Up.e) last).2.2.1, .int .i64 (rbegin (E.map Up.e) last).2.2.2]) ∧ E'.map Up.e = (rbegin (E.map Up.e) last).1 ∧ RfAt w' B cs' E' (rbegin (E.map Up.e) last).2.1 := by
  refine (F12.of cs w (Q := fun v w' => Fr (fun _ => False) w w' ∧ ∃ cs' E', v = .tuple #[ofL cs', .int .i64 (rbegin (E.map Up.e) last).2.2.1, .int .i64 (rbegin (E.map Up.e) last).2.2.2] ∧ E'.map Up.e = (rbegin (E.map Up.e) last).1 ∧ RfAt w' B cs' E' (rbegin (E.map Up.e) last).2.1) ?_).mono (fun e w' ⟨v, he, hf, cs', E', hv, h⟩ => ⟨hf, cs', E', by rw [he, hv], h⟩)
  have h0 := h
  obtain ⟨A, n, c, rfl, hr, hb⟩ := h
  have hl := up_n hr.sl
  refine nw2 (fun b1 b3 u f r1 r3 hb1 hb3 hne => ?_)
  refine ⟨A, n, c, r1.cell rfl, vIf_mk (fun h8 => ?_) (fun h8 => ?_)⟩
  · have h8 : (n : Int) ≥ 8 := of_decide_eq_true h8
    have hrb : rbegin (E.map Up.e) last = (E.map Up.e, last, 0, 8) := if_pos (by rw [List.length_map]; omega)
    rw [hrb]
    refine ⟨_, rfl, rec_all r1, gd_mk rfl (st2r r3 rfl rfl (one2 rfl rfl) (fun w' f' => ⟨fr_own f f' hb3, _, E, rfl, rfl, ?_⟩))⟩
    exact h0.fr0 (fr_own f f' hb3)
  · have h8 : ¬ (n : Int) ≥ 8 := of_decide_eq_false h8
    have hrb : rbegin (E.map Up.e) last = (E.map Up.e ++ [(last + 1, [])], last + 1, last + 1, 0) := if_neg (by rw [List.length_map]; omega)
    rw [hrb]
    refine ⟨A, n, c, r1.cell rfl, ?_⟩
    refine app_row (Row.nil u w.heap.size 52 2) (f.row hr (fun _ _ h => h)).sl.src (rcs_oneCell E) rfl (by omega) (by omega) f.size (fun A' c' u2 hr2 f2 => ?_)
    rw [List.nil_append] at hr2
    have f2 : Fr (fun _ => False) u u2 := f2.mono (fun _ _ h => by simp [blkOf] at h)
    have g2 := (f.trans1 f2).trans1 (Fr.drew _ u2)
    have r1' := r1.fr (f2.trans1 (Fr.drew _ u2)) (fun h => h)
    have r3' := r3.fr (f2.trans1 (Fr.drew _ u2)) (fun h => h)
    have hr2 : Row u2.drew w.heap.size 52 2 A' (0 + n) c' (rcs E) := (Fr.drew (fun _ => False) u2).row hr2 (fun _ _ h => h)
    generalize u2.drew = u3 at g2 r1' r3' hr2 ⊢
    have hb1' := r1'.lt
    have hw : IntKind.wrap .i64 (last + 1) = last + 1 := i64_id (by omega) (by omega)
    refine ⟨last, r1'.cell rfl, last, r1'.cell rfl, last, r1'.cell rfl, ?_⟩
    rw [hw]
    refine gd_mk rfl ?_
    refine nw_mk (cs := ucs ⟨last + 1, [], none, 0, 0⟩) ?_
    dsimp only
    have f4 : Fr (fun _ => False) u3 (u3.alloc (.cells (ucs ⟨last + 1, [], none, 0, 0⟩).toArray 52)) := Fr.alloc _ _ _
    have q4 : Row (u3.alloc (.cells (ucs ⟨last + 1, [], none, 0, 0⟩).toArray 52)) 0 52 2 (some ⟨u3.heap.size, 0, none⟩) 1 1 (rcs [⟨last + 1, [], none, 0, 0⟩]) := by rw [rcs_one]; exact Row.new (Nat.zero_le _) rfl
    generalize u3.alloc (.cells (ucs ⟨last + 1, [], none, 0, 0⟩).toArray 52) = u4 at f4 q4 ⊢
    refine kp_mk f4 hb1' (fun h => h) (kp_mk f4 hb1' (fun h => h) ?_)
    have hr4 := f4.row hr2 (fun _ _ h => h)
    have g4 := g2.trans1 f4
    refine app_row hr4 q4.sl.src (rcs_oneCell _) rfl (by omega) (by omega) g4.size (fun A5 c5 u5 hr5 f5 => ?_)
    have g5 := own_fr g4 hr4 f5
    have n1 : ∀ {x : List Value}, RecAt u4 b1 38 x → ¬ blkOf A' = some b1 := fun hx hk => Row_rec_ne hr4 hx (by decide) b1 hk rfl
    have n3 : ∀ {x : List Value}, RecAt u4 b3 38 x → ¬ blkOf A' = some b3 := fun hx hk => Row_rec_ne hr4 hx (by decide) b3 hk rfl
    have f45 := f4.trans f5 (fun _ _ h => h.elim) (fun _ _ h => h)
    have n1' := n1 (r1'.fr f4 (fun h => h))
    refine kp_mk f45 hb1' n1' (kp_mk f45 hb1' n1' (gd_mk rfl ?_))
    have r3'' := (r3'.fr f4 (fun h => h)).fr f5 (n3 (r3'.fr f4 (fun h => h)))
    rw [← rcs_app] at hr5
    refine st2 r3'' rfl rfl (one2 rfl rfl) (fun w' f' r' => kp_mk (f45.trans (U := fun k => blkOf A' = some k ∨ k = b3) f' (fun _ _ h => .inl h) (fun _ _ h => .inr h)) hb1' (fun h => h.elim n1' hne) ⟨_, rfl, rec_all r', fr_own g5 f' hb3, _, E ++ [⟨last + 1, [], none, 0, 0⟩], by rw [hw]; rfl, by simp [Up.e], A5, _, c5, rfl, ?_, ?_⟩)
    · exact row_low hB (f'.row hr5 (Row_rec_ne hr5 r3'' (by decide)))
    · intro x hx
      rcases List.mem_append.1 hx with h1 | h1
      · exact (fr_own g5 f' hb3).row (hb x h1) (fun _ _ h => h)
      · simp at h1; subst h1; exact Row.nil _ _ _ _
/-! ### End -/
set_option maxHeartbeats 1000000 in
theorem rend_calls (B : Nat) (cs : List Value) (E : List Up) (last id : Int) (w : World) (h : RfAt w B cs E last) (hB : B ≤ w.heap.size) (hn : E.length ≤ 1073741824) :
    Calls Try.prog 15 #[ofL cs, .int .i64 id] w fun r w' => Fr (fun _ => False) w w' ∧ ∃ cs' E', r = .returned (.tuple #[ofL cs', .int .i64 (rend (E.map Up.e) id).2]) ∧ E'.map Up.e = (rend (E.map Up.e) id).1 ∧ RfAt w' B cs' E' last := by
  refine (F15.of cs id w (Q := fun v w' => Fr (fun _ => False) w w' ∧ ∃ cs' E', v = .tuple #[ofL cs', .int .i64 (rend (E.map Up.e) id).2] ∧ E'.map Up.e = (rend (E.map Up.e) id).1 ∧ RfAt w' B cs' E' last) ?_).mono (fun e w' ⟨v, he, hf, cs', E', hv, h⟩ => ⟨hf, cs', E', by rw [he, hv], h⟩)
  have h0 := h
  obtain ⟨A, n, c, rfl, hr, hb⟩ := h
  have hl := up_n hr.sl
  refine nw2 (fun b1 b3 u f r1 r3 hb1 hb3 hne => ?_)
  refine ⟨_, rfl, rec_all r1, (rfind_calls B _ E last id u (h0.fr0 f) (by omega)).mono ?_⟩
  rintro r u1 ⟨f1, rfl⟩
  have g1 := f.trans1 f1
  have r1 := r1.fr f1 (fun h => h)
  have r3 := r3.fr f1 (fun h => h)
  cases hu : ufind E id with
  | none =>
    have hre : rend (E.map Up.e) id = (E.map Up.e, 6) := by unfold rend; rw [ufind_e, hu]; rfl
    rw [hre]
    refine ⟨none, 0, 0, false, rfl, vIf_t rfl ⟨_, rfl, rec_all r1, gd_mk rfl (st2r r3 rfl rfl (one2 rfl rfl) (fun w' f' => ⟨fr_own g1 f' hb3, _, E, rfl, rfl, h0.fr0 (fr_own g1 f' hb3)⟩))⟩⟩
  | some x0 =>
    have hre : rend (E.map Up.e) id = ((E.map Up.e).filter (fun x => x.1 != id), 0) := by unfold rend; rw [ufind_e, hu]; rfl
    rw [hre]
    refine ⟨x0.A, x0.n, x0.c, true, rfl, vIf_f rfl ⟨last, r1.cell rfl, nw_mk (gd_mk rfl ?_)⟩⟩
    have f2 : Fr (fun _ => False) u1 (u1.alloc (.cells [Value.slice none 0 0, Value.int .i64 0].toArray 38)) := Fr.alloc _ _ _
    refine st2 (RecAt.new u1 [Value.slice none 0 0, Value.int .i64 0] 38) rfl rfl (one2 rfl rfl) (fun u3 f3 r16 => jnC_mk ?_)
    have hu1 := g1.size
    generalize hb16 : u1.heap.size = b16 at f3 r16 hu1
    have g3 : Fr (fun _ => False) w u3 := fr_own (g1.trans1 f2) f3 hu1
    have f23 : Fr (fun k => k = b16) u1 u3 := f2.trans f3 (fun _ _ h => h.elim) (fun _ _ h => h)
    have n1 : b1 ≠ b16 := fun h => by have := r1.lt; omega
    have n3 : b3 ≠ b16 := fun h => by have := r3.lt; omega
    have r1 := r1.fr f23 n1
    have r3 := r3.fr f23 n3
    refine loop_rule (fun s v => Fr (fun _ => False) w v ∧ RecAt v b1 38 [.slice A n c, .int .i64 last] ∧ RecAt v b3 38 [.slice none 0 0, .int .i64 0] ∧ ∃ (i : Nat) (O : List Up) (A8 : Option Addr) (c8 : Nat), i ≤ n ∧ s = (id, (b1, 0), (b3, 0), (b16, 0), (i : Int), ()) ∧ O = (E.take i).filter (fun x => x.id != id) ∧ RecAt v b16 38 [.slice A8 O.length c8, .int .i64 last] ∧ Row v w.heap.size 52 2 A8 O.length c8 (rcs O))
      (fun s _ => (n - s.2.2.2.2.1).toNat) ?_ _ _ ⟨g3, r1, r3, 0, [], none, 0, by omega, rfl, rfl, r16, Row.nil _ _ _ _⟩
    clear r1 r3 r16 g3 f23 f3 f2 g1 f1
    rintro s v C ⟨g, r1, r3, i, O, A8, c8, hi, rfl, hO, r16, hr8⟩ hC _
    have hol : O.length ≤ i := by rw [hO]; exact Nat.le_trans (List.length_filter_le _ _) (by rw [List.length_take]; omega)
    have hrv := g.row hr (fun _ _ h => h)
    refine ⟨A, n, c, r1.cell rfl, vIf_mk (fun hlt => ?_) (fun hge => ?_)⟩
    · have hlt2 : (i : Int) < (n : Int) := of_decide_eq_true hlt
      have gi : E[i]? = some (E[i]'(by omega)) := List.getElem?_eq_getElem (by omega)
      generalize E[i]'(by omega) = x at gi
      have d0 : decide (0 ≤ (i : Int)) = true := decide_eq_true (by omega)
      have hm : ((n : Int) - IntKind.wrap .i64 ((i : Int) + 1)).toNat < ((n : Int) - (i : Int)).toNat := by rw [ei i (by omega)]; omega
      have tk : (E.take (i + 1)).filter (fun x => x.id != id) = O ++ (if x.id != id then [x] else []) := by
        rw [List.take_add_one, gi, List.filter_append, ← hO]
        cases hxx : (x.id != id) with
        | true => simp [hxx]
        | false => simp [hxx]
      obtain ⟨b, o, hA, hc⟩ := up_at hrv.sl gi
      subst hA
      have c0 : cellAt v b (o + ((i : Int)).toNat * 2) = some (.int .i64 x.id) := by rw [Int.toNat_natCast]; exact hc 0 _ rfl
      refine ⟨_, n, c, r1.cell rfl, dr_mk (gd_mk d0 (gd_mk hlt ⟨x.id, c0, vIf_mk (fun hne => ?_) (fun he => ?_)⟩))⟩
      · rw [if_pos hne] at tk
        have fd : Fr (fun _ => False) v v.drew := Fr.drew _ _
        have r1 : RecAt v.drew b1 _ _ := r1
        have r3 : RecAt v.drew b3 _ _ := r3
        have r16 : RecAt v.drew b16 _ _ := r16
        have hr8 : Row v.drew w.heap.size 52 2 A8 O.length c8 (rcs O) := fd.row hr8 (fun _ _ h => h)
        have hc : cellsAt v.drew b (o + i * 2) (ucs x) := hc
        have gd' := g.trans1 fd
        generalize v.drew = v1 at fd r1 r3 r16 hr8 hc gd' ⊢
        refine ⟨A8, O.length, c8, r16.cell rfl, _, n, c, r1.cell rfl, dr_mk (gd_mk d0 (gd_mk hlt ⟨ucs x, rfl, by rw [Int.toNat_natCast]; exact hc, gd_mk rfl (nw_mk (cs := ucs x) ?_)⟩))⟩
        have f4 : Fr (fun _ => False) v1 (v1.alloc (.cells (ucs x).toArray 52)) := Fr.alloc _ _ _
        have q4 : Row (v1.alloc (.cells (ucs x).toArray 52)) 0 52 2 (some ⟨v1.heap.size, 0, none⟩) 1 1 (rcs [x]) := by rw [rcs_one]; exact Row.new (Nat.zero_le _) rfl
        have h16 := r16.lt
        generalize v1.alloc (.cells (ucs x).toArray 52) = v4 at f4 q4 ⊢
        refine kp_mk f4 h16 (fun h => h) ?_
        have hr4 := f4.row hr8 (fun _ _ h => h)
        have g4 := gd'.trans1 f4
        refine app_row hr4 q4.sl.src (rcs_oneCell _) rfl (by omega) (by omega) g4.size (fun A5 c5 v5 hr5 f5 => ?_)
        have g5 := own_fr g4 hr4 f5
        have e1 := r1.fr f4 (fun h => h)
        have e3 := r3.fr f4 (fun h => h)
        have e16 := r16.fr f4 (fun h => h)
        have e1 := e1.fr f5 (fun hk => Row_rec_ne hr4 e1 (by decide) b1 hk rfl)
        have e3 := e3.fr f5 (fun hk => Row_rec_ne hr4 e3 (by decide) b3 hk rfl)
        have e16 := e16.fr f5 (fun hk => Row_rec_ne hr4 e16 (by decide) b16 hk rfl)
        rw [← rcs_app] at hr5
        have hl1 : O.length + 1 = (O ++ [x]).length := by simp
        rw [hl1] at hr5 ⊢
        refine e16.st_mk (o := 0) (by simp) (one1 rfl) (fun r6 f6 => jnC_mk (hC _ _ ⟨fr_own g5 f6 hu1, e1.fr f6 n1, e3.fr f6 n3, i + 1, O ++ [x], A5, c5, by omega, by rw [ei i (by omega)], tk.symm, r6, f6.row hr5 (Row_rec_ne hr5 e16 (by decide))⟩ hm))
      · rw [if_neg (by rw [he]; simp), List.append_nil] at tk
        exact jnC_mk (hC _ _ ⟨g, r1, r3, i + 1, O, A8, c8, by omega, by rw [ei i (by omega)], tk.symm, r16, hr8⟩ hm)
    · have hge2 : ¬ (i : Int) < (n : Int) := of_decide_eq_false hge
      rw [List.take_of_length_le (by omega)] at hO
      refine ⟨_, rfl, rec_all r16, gd_mk rfl (st2r r3 rfl rfl (one2 rfl rfl) (fun w' f' => ⟨fr_own g f' hb3, _, O, rfl, ?_, A8, _, c8, rfl, row_low hB (f'.row hr8 (Row_rec_ne hr8 r3 (by decide))), fun x hx => ?_⟩))⟩
      · show O.map Up.e = (E.map Up.e).filter (fun x => x.1 != id)
        rw [hO, List.filter_map]
        rfl
      · rw [hO] at hx
        exact (fr_own g f' hb3).row (hb x (List.mem_filter.1 hx).1) (fun _ _ h => h)
end Go.Proofs.Ytihifmamdeafdaa
