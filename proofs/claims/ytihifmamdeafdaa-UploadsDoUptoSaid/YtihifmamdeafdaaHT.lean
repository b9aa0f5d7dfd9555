/- chapter 37: the law of any deeds -/
import Derived.Test.YtihifmamdeafdaaHQ
import Derived.Test.YtihifmamdeafdaaHL
namespace Go.Proofs.Ytihifmamdeafdaa
open Go.GV Go.RowKit
set_option linter.unusedVariables false
set_option linter.unusedSimpArgs false
structure Ded where
  k : Int
  id : Int
  off : Int
  l : List UInt8
  A : Option Addr
  n : Nat
  c : Nat
  most : Int
def Ded.cs (d : Ded) : List Value := [.int .i64 d.k, .int .i64 d.id, .int .i64 d.off, .slice d.A d.n d.c, .int .i64 d.most]
def dds (ds : List Ded) : List Value := (ds.map Ded.cs).flatten
theorem dds_flat (E : List Ded) : (dds E).length = E.length * 5 ∧ ∀ (i : Nat) (x : Ded) (j : Nat), E[i]? = some x → j < 5 → (dds E)[i * 5 + j]? = x.cs[j]? := by
  obtain ⟨h1, h2⟩ := flatten_get (vss := E.map Ded.cs) (k := 5) (fun i v hv => by
    rw [List.getElem?_map] at hv
    cases hr : E[i]? with
    | none => rw [hr] at hv; cases hv
    | some x => rw [hr] at hv; injection hv with hv; subst hv; rfl)
  refine ⟨by unfold dds; rw [h1, List.length_map], fun i x j hi hj => h2 i _ j (by rw [List.getElem?_map, hi]; rfl) hj⟩
theorem ded_n {w : World} {A : Option Addr} {n : Nat} {E : List Ded} (h : Sl w 5 A n (dds E)) : E.length = n := by
  have := h.1
  rw [(dds_flat E).1] at this
  omega
theorem ded_at {w : World} {A : Option Addr} {n : Nat} {E : List Ded} (h : Sl w 5 A n (dds E)) {i : Nat} {x : Ded} (hx : E[i]? = some x) : ∃ b o, A = some ⟨b, o, none⟩ ∧ cellsAt w b (o + i * 5) x.cs := by
  have hi := (List.getElem?_eq_some_iff.1 hx).1
  have := ded_n h
  obtain ⟨b, o, hA, hc⟩ := h.2 (by omega)
  refine ⟨b, o, hA, fun j v hj => ?_⟩
  have hj2 : j < 5 := (List.getElem?_eq_some_iff.1 hj).1
  rw [Nat.add_assoc]
  exact hc _ v (by rw [(dds_flat E).2 i x j hx hj2]; exact hj)
def ZT (T : Tab) : Prop := ∀ x ∈ T, x.1 = 0 → x.2 = []
theorem ZT.set {T : Tab} (h : ZT T) {i : Nat} {y : Ent} (hy : y.1 = 0 → y.2 = []) : ZT (T.set i y) := by
  intro x hx
  rcases List.mem_or_eq_of_mem_set hx with h1 | h1
  · exact h x h1
  · subst h1; exact hy
theorem ZT.chunk {T : Tab} (h : ZT T) (id off : Int) (l : List UInt8) (most : Int) : ZT (chunkT T id off l most).2 := by
  unfold chunkT
  cases hf : fnd T id with
  | none => exact h
  | some i =>
    obtain ⟨x, hx, hxi⟩ := Go.Proofs.Ytihifmamdeafdaa.fnd_some hf
    have h0 : id ≠ 0 := by
      intro h0
      rw [h0] at hf
      simp [fnd] at hf
    simp only [hx]
    split
    · exact h
    · split
      · exact h
      · exact h.set (fun h1 => absurd (hxi.symm.trans h1) h0)
theorem ZT.end_ {T : Tab} (h : ZT T) (id : Int) : ZT (endT T id).2 := by
  unfold endT
  cases hf : fnd T id with
  | none => exact h
  | some i => exact h.set (fun _ => rfl)
theorem rfind_mem {R : Tab} {id : Int} {l : List UInt8} (h : rfind R id = some l) : ∃ x ∈ R, x.2 = l := by
  unfold rfind at h
  cases hf : R.find? (fun x => x.1 == id) with
  | none => rw [hf] at h; cases h
  | some x => rw [hf] at h; injection h with h; exact ⟨x, List.mem_of_find?_eq_some hf, h⟩
theorem rchunk_len {R : Tab} {m : Nat} (h : ∀ x ∈ R, x.2.length ≤ m) (id off : Int) (l : List UInt8) (most : Int) : ∀ x ∈ (rchunk R id off l most).1, x.2.length ≤ m + l.length := by
  intro x hx
  unfold rchunk at hx
  cases hf : rfind R id with
  | none => rw [hf] at hx; have := h x hx; omega
  | some old =>
    obtain ⟨y, hy, hyo⟩ := rfind_mem hf
    have hol := h y hy
    rw [hyo] at hol
    rw [hf] at hx
    dsimp only at hx
    split at hx
    · have := h x hx; omega
    · split at hx
      · have := h x hx; omega
      · obtain ⟨z, hz, rfl⟩ := List.mem_map.1 hx
        unfold upd
        split
        · simp; omega
        · have := h z hz; omega
theorem rbegin_len {R : Tab} {m : Nat} (h : ∀ x ∈ R, x.2.length ≤ m) (last : Int) : ∀ x ∈ (rbegin R last).1, x.2.length ≤ m := by
  intro x hx
  unfold rbegin at hx
  split at hx
  · exact h x hx
  · rcases List.mem_append.1 hx with h1 | h1
    · exact h x h1
    · simp at h1; subst h1; exact Nat.zero_le _
theorem rend_len {R : Tab} {m : Nat} (h : ∀ x ∈ R, x.2.length ≤ m) (id : Int) : ∀ x ∈ (rend R id).1, x.2.length ≤ m := by
  intro x hx
  unfold rend at hx
  split at hx
  · exact h x hx
  · exact h x (List.mem_filter.1 hx).1
/-- what holds between the deeds -/
structure Inv (w v : World) (ub rb i m : Nat) (T : Tab) (last : Int) (E : List Up) (cs : List Value) : Prop where
  fr : Fr (fun _ => False) w v
  up : UpAt v ub (fun k => k ≠ rb) T last
  rc : RecAt v rb 38 cs
  rf : RfAt v (ub + 1) cs E last
  rel : Rel T (E.map Up.e) last
  li : last ≤ i
  lm : ∀ x ∈ E, x.l.length ≤ m
  z : ZT T
theorem len8 {T R : Tab} {last : Int} (h : Rel T R last) : R.length ≤ 8 := by
  have h1 := h.perm.length_eq
  have h2 := List.length_filter_le nz T
  rw [h.tlen] at h2
  omega
set_option maxHeartbeats 4000000 in
theorem does_law (A : Option Addr) (n c : Nat) (ds : List Ded) (w : World) (h : Sl w 5 A n (dds ds)) (hd : ∀ d ∈ ds, Sl w 1 d.A d.n (d.l.map bv)) (hn : n ≤ 1048576) (hs : (ds.map (fun d => d.l.length)).sum ≤ 1048576) :
    Calls Try.prog 4 #[.slice A n c] w fun e w' => e = .returned (.bool true) ∧ Fr (fun _ => False) w w' := by
  refine (F4.of A n c w (Q := fun v w' => v = .bool true ∧ Fr (fun _ => False) w w') ?_).mono (fun e w' ⟨v, he, hv, h⟩ => ⟨by rw [he, hv], h⟩)
  have hl := ded_n h
  refine (new_calls w).mono ?_
  rintro e w1 ⟨rfl, hu1, f1, hs1⟩
  refine ⟨_, rfl, nw_mk (jnC_mk ?_)⟩
  generalize hub : w.heap.size = ub at hu1 hs1
  have f2 : Fr (fun _ => False) w1 (w1.alloc (.cells [Value.slice none 0 0, Value.int .i64 0].toArray 38)) := Fr.alloc _ _ _
  have r2 := RecAt.new w1 [Value.slice none 0 0, Value.int .i64 0] 38
  generalize hrb : w1.heap.size = rb at hs1 r2
  generalize w1.alloc (.cells [Value.slice none 0 0, Value.int .i64 0].toArray 38) = w2 at f2 r2 ⊢
  have wub : w.heap.size ≤ ub := by omega
  have wrb : w.heap.size ≤ rb := by omega
  refine loop_rule (fun s v => ∃ (i : Nat) (T : Tab) (last : Int) (E : List Up) (cs : List Value), i ≤ n ∧ s = ((A, n, c), some ⟨ub, 0, none⟩, (rb, 0), (i : Int), ()) ∧ Inv w v ub rb i ((ds.take i).map (fun d => d.l.length)).sum T last E cs)
    (fun s _ => (n - s.2.2.2.1).toNat) ?_ _ _ ⟨0, List.replicate 8 (0, []), 0, [], _, by omega, rfl, f1.trans1 f2, (hu1.fr0 f2).mono (fun k hk => hk.elim), r2, ⟨none, 0, 0, rfl, Row.nil _ _ _ _, (fun x hx => by cases hx)⟩, Rel.start, by omega, (fun x hx => by cases hx), fun x hx h0 => by rw [List.mem_replicate] at hx; rw [hx.2]⟩
  rintro s v C ⟨i, T, last, E, cs, hi, rfl, inv⟩ hC _
  have live : ∀ v, Fr (fun _ => False) w v → Calls Try.prog 11 #[] v fun e w' => ∃ t : Bool, e = .returned (.bool t) ∧ (Value.bool t = .bool true ∧ Fr (fun _ => False) w w') := fun v fv => (lives_calls v).mono (fun e w' ⟨he, hf⟩ => ⟨true, he, rfl, fv.trans1 hf⟩)
  refine vIf_mk (fun hlt => ?_) (fun hge => live v inv.fr)
  have hlt2 : (i : Int) < (n : Int) := of_decide_eq_true hlt
  have gi : ds[i]? = some (ds[i]'(by omega)) := List.getElem?_eq_getElem (by omega)
  generalize ds[i]'(by omega) = d at gi
  have hdm : d ∈ ds := List.mem_of_getElem? gi
  have hsum : ((ds.take (i + 1)).map (fun d => d.l.length)).sum = ((ds.take i).map (fun d => d.l.length)).sum + d.l.length := by
    rw [List.take_add_one, gi, List.map_append, List.sum_append]; simp
  have hle : ((ds.take (i + 1)).map (fun d => d.l.length)).sum ≤ 1048576 := by
    have h1 := congrArg (fun l => (l.map (fun d : Ded => d.l.length)).sum) (List.take_append_drop (i + 1) ds)
    simp only [List.map_append, List.sum_append] at h1
    omega
  generalize ((ds.take i).map (fun d => d.l.length)).sum = m at inv hsum
  rw [hsum] at hle
  have hdl : d.l.length = d.n := by simpa using (hd d hdm).1
  have hm : ((n : Int) - IntKind.wrap .i64 ((i : Int) + 1)).toNat < ((n : Int) - (i : Int)).toNat := by rw [ei i (by omega)]; omega
  obtain ⟨b, o, hA, hc⟩ := ded_at (inv.fr.sl h (fun _ _ _ h => h)) gi
  subst hA
  refine dr_mk (gd_mk (decide_eq_true (by show (0 : Int) ≤ (i : Int); omega)) (gd_mk hlt ⟨d.cs, rfl, by rw [Int.toNat_natCast]; exact hc, nw_mk (gd_mk rfl ?_)⟩))
  -- the deed's variable
  have q1 : Fr (fun _ => False) v (v.alloc (.cells Z40.toArray 40)) := Fr.alloc _ _ _
  refine (RecAt.new v Z40 40).st_mk (o := 0) (vs := d.cs) (Nat.le_refl 5) (by
    intro x hx
    simp only [Ded.cs, List.mem_cons, List.not_mem_nil, or_false] at hx
    rcases hx with rfl | rfl | rfl | rfl | rfl <;> rfl) (fun r9 q2 => ?_)
  rw [splice_full (show d.cs.length = Z40.length from rfl)] at r9
  have lrb := inv.rc.lt
  have lub : ub < v.heap.size := by
    obtain ⟨_, _, hr, _⟩ := inv.up
    exact hr.lt
  have q : Fr (fun _ => False) v (stB (v.alloc (.cells Z40.toArray 40)) v.heap.size 0 d.cs) := fr_own q1 q2 (Nat.le_refl _)
  generalize hdb : v.heap.size = db at r9 q lrb lub
  generalize stB (v.alloc (.cells Z40.toArray 40)) db 0 d.cs = v2 at r9 q ⊢
  have g2 := inv.fr.trans1 q
  have up2 := inv.up.fr0 q
  have rc2 := inv.rc.fr q (fun h => h)
  have rf2 := inv.rf.fr0 q
  have rel := inv.rel
  have li := inv.li
  have lm := inv.lm
  have zt := inv.z
  have hd2 : Sl v2 1 d.A d.n (d.l.map bv) := g2.sl (hd d hdm) (fun _ _ _ h => h)
  clear inv q2 q1 hc
  have h8 := len8 rel
  rw [List.length_map] at h8
  have hT := rel.bound (m := m) (fun x hx => by obtain ⟨y, hy, rfl⟩ := List.mem_map.1 hx; exact lm y hy) zt
  -- what follows each deed
  have rest : ∀ (v3 : World) (nn ee : Int) (T : Tab) (last : Int) (E : List Up) (cs : List Value), Inv w v3 ub rb (i + 1) (m + d.l.length) T last E cs → RecAt v3 db 40 d.cs →
      jnC (F4.k17 (fun v w' => v = .bool true ∧ Fr (fun _ => False) w w') C) ((some ⟨b, o, none⟩, n, c), some ⟨ub, 0, none⟩, (rb, 0), (i : Int), (db, 0), nn, nn, ee, ee, ()) v3 := by
    intro v3 nn ee T last E cs inv r9
    have h8 := len8 inv.rel
    rw [List.length_map] at h8
    have hT := inv.rel.bound (m := m + d.l.length) (fun x hx => by obtain ⟨y, hy, rfl⟩ := List.mem_map.1 hx; exact inv.lm y hy) inv.z
    refine jnC_mk (fun _ => ⟨d.id, r9.cell rfl, (data_calls ub d.id v3 _ T last inv.up (fun j x hx => by have := hT j x hx; omega)).mono ?_⟩)
    rintro e v4 ⟨f4, hdat⟩
    rw [inv.rel.data, ufind_e] at hdat
    have r9 := r9.fr f4 (fun h => h)
    have rc4 := inv.rc.fr f4 (fun h => h)
    have rf4 := inv.rf.fr0 f4
    have fnd4 := rfind_calls (ub + 1) cs E last d.id v4 rf4 (by omega)
    -- behind the two bytes
    have tail : ∀ (v5 : World) (A1 : Option Addr) (n1 c1 : Nat) (l1 : List UInt8) (A2 : Option Addr) (n2 c2 : Nat) (g : Int) (t : Bool), Fr (fun _ => False) v3 v5 → Sl v5 1 A1 n1 (l1.map bv) → Sl v5 1 A2 n2 (l1.map bv) → n1 ≤ 1099511627776 → (g = 0 ∧ t = true ∨ g = 6 ∧ t = false) →
        Calls Try.prog 17 #[.pointer (some ⟨ub, 0, none⟩)] v5 fun e40 w39 => ∃ (A41 : Option Addr) (n42 c43 : Nat), e40 = .returned (Value.slice A41 n42 c43) ∧
          vIf (nn != nn) ((fun v w' => v = Value.bool true ∧ Fr (fun _ => False) w w') (Value.bool false) w39) (vIf (ee != ee) ((fun v w' => v = Value.bool true ∧ Fr (fun _ => False) w w') (Value.bool false) w39)
            (Calls Try.prog 10 #[Value.slice A1 n1 c1, Value.slice A2 n2 c2] w39 fun e45 w44 =>
            ∃ t46 : Bool, e45 = .returned (Value.bool t46) ∧ (
              vIf (!t46)
              ((fun v w' => v = Value.bool true ∧ Fr (fun _ => False) w w') (Value.bool false) w44)
              (vIf (!((g == 0) == t))
                ((fun v w' => v = Value.bool true ∧ Fr (fun _ => False) w w') (Value.bool false) w44)
                (vIf (!t)
                  (vIf (g != 6)
                    ((fun v w' => v = Value.bool true ∧ Fr (fun _ => False) w w') (Value.bool false) w44)
                    (ldSl w44 rb 0 fun A47 n48 c49 =>
                      vIf (((n42 : Nat) : Int) != ((n48 : Nat) : Int))
                      ((fun v w' => v = Value.bool true ∧ Fr (fun _ => False) w w') (Value.bool false) w44)
                      (jnC (F4.k22 (fun v w' => v = .bool true ∧ Fr (fun _ => False) w w') C) ((some ⟨b, o, none⟩, n, c), some ⟨ub, 0, none⟩, (rb, 0), (i : Int), (A41, n42, c43), ()) w44)))
                  (ldSl w44 rb 0 fun A59 n60 c61 =>
                    vIf (((n42 : Nat) : Int) != ((n60 : Nat) : Int))
                    ((fun v w' => v = Value.bool true ∧ Fr (fun _ => False) w w') (Value.bool false) w44)
                    (jnC (F4.k22 (fun v w' => v = .bool true ∧ Fr (fun _ => False) w w') C) ((some ⟨b, o, none⟩, n, c), some ⟨ub, 0, none⟩, (rb, 0), (i : Int), (A41, n42, c43), ()) w44))))))) := by
      intro v5 A1 n1 c1 l1 A2 n2 c2 g t f5 s1 s2 hn1 hgt
      refine (open_calls ub v5 _ T last (inv.up.fr0 f5)).mono ?_
      rintro e v6 ⟨f6, A6, c6, l6, rfl, hs6, hp6, ho6⟩
      have hl6 := inv.rel.ids hp6 ho6
      have hl6n : l6.length = E.length := by rw [hl6]; simp
      refine ⟨A6, _, c6, rfl, vIf_f (by simp) (vIf_f (by simp) ((same_calls A1 n1 c1 l1 A2 n2 c2 l1 v6 (f6.sl s1 (fun _ _ _ h => h)) (f6.sl s2 (fun _ _ _ h => h)) (by omega)).mono ?_))⟩
      rintro e v7 ⟨rfl, f7⟩
      have f37 := (f5.trans1 f6).trans1 f7
      have g7 := inv.fr.trans1 f37
      have rc7 := inv.rc.fr f37 (fun h => h)
      have rf7 := inv.rf.fr0 f37
      have up7 := inv.up.fr0 f37
      have hs7 := f7.sl hs6 (fun _ _ _ h => h)
      have inv7 : Inv w v7 ub rb (i + 1) (m + d.l.length) T last E cs := ⟨g7, up7, rc7, rf7, inv.rel, inv.li, inv.lm, inv.z⟩
      obtain ⟨AR, nR, cR, hcs, hrR, hbR⟩ := rf7
      have hnR := up_n hrR.sl
      have rc7 : RecAt v7 rb 38 [.slice AR nR cR, .int .i64 last] := by rw [← hcs]; exact inv.rc.fr f37 (fun h => h)
      have k22 : jnC (F4.k22 (fun v w' => v = .bool true ∧ Fr (fun _ => False) w w') C) ((some ⟨b, o, none⟩, n, c), some ⟨ub, 0, none⟩, (rb, 0), (i : Int), (A6, l6.length, c6), ()) v7 := by
        refine jnC_mk (fun _ => jnC_mk ?_)
        refine loop_rule (fun s u => Fr (fun _ => False) v7 u ∧ ∃ k : Nat, k ≤ l6.length ∧ s = ((some ⟨b, o, none⟩, n, c), some ⟨ub, 0, none⟩, (rb, 0), (i : Int), (A6, l6.length, c6), (k : Int), ()))
          (fun s _ => (l6.length - s.2.2.2.2.2.1).toNat) ?_ _ _ ⟨Fr.refl _ _, 0, by omega, rfl⟩
        rintro s u C2 ⟨fu, k, hk, rfl⟩ hC2 _
        refine vIf_mk (fun hlt => ?_) (fun hge => ?_)
        · have hlt3 : (k : Int) < (l6.length : Int) := of_decide_eq_true hlt
          have fd := fu.trans1 (Fr.drew _ u)
          have gk : l6[k]? = some (l6[k]'(by omega)) := List.getElem?_eq_getElem (by omega)
          have gE : E[k]? = some (E[k]'(by omega)) := List.getElem?_eq_getElem (by omega)
          have heq : l6[k]'(by omega) = (E[k]'(by omega)).id := by
            have h1 : l6[k]? = ((E.map Up.e).map (·.1))[k]? := by rw [hl6]
            rw [gk, List.getElem?_map, List.getElem?_map, gE] at h1
            exact Option.some.inj h1
          obtain ⟨bk, ok, hAk, hck⟩ := (fd.sl hs7 (fun _ _ _ h => h)).2 (by omega)
          subst hAk
          obtain ⟨be, oe, hAe, hce⟩ := up_at (fd.sl hrR.sl (fun _ _ _ h => h)) gE
          subst hAe
          have d0 : decide (0 ≤ (k : Int)) = true := decide_eq_true (by omega)
          refine dr_mk (gd_mk d0 (gd_mk hlt ⟨l6[k]'(by omega), by rw [Int.toNat_natCast, Nat.mul_one]; exact hck k _ (ivs_at gk), _, nR, cR, (rc7.fr fd (fun h => h)).cell rfl, dr_mk (gd_mk d0 (gd_mk (decide_eq_true (by show (k : Int) < (nR : Int); omega)) ⟨(E[k]'(by omega)).id, by rw [Int.toNat_natCast]; exact hce 0 _ rfl, vIf_f (by rw [heq]; simp) ?_⟩))⟩))
          refine jnC_mk (hC2 _ _ ⟨fd, k + 1, by omega, by rw [ei k (by omega)]⟩ ?_)
          show ((l6.length : Int) - IntKind.wrap .i64 ((k : Int) + 1)).toNat < ((l6.length : Int) - (k : Int)).toNat
          rw [ei k (by omega)]; omega
        · refine jnC_mk (hC _ _ ⟨i + 1, T, last, E, cs, by omega, by rw [ei i (by omega)], ?_⟩ hm)
          rw [hsum]
          exact ⟨g7.trans1 fu, up7.fr0 fu, inv7.rc.fr fu (fun h => h), inv7.rf.fr0 fu, inv.rel, inv.li, inv.lm, inv.z⟩
      have lst : ∀ {X Y : Prop}, Y → vIf (((l6.length : Nat) : Int) != ((nR : Nat) : Int)) X Y := fun hY => vIf_f (by simp; omega) hY
      refine ⟨_, rfl, vIf_f (by simp) ?_⟩
      rcases hgt with ⟨rfl, rfl⟩ | ⟨rfl, rfl⟩
      · exact vIf_f rfl (vIf_f rfl ⟨AR, nR, cR, rc7.cell rfl, lst k22⟩)
      · exact vIf_f rfl (vIf_t rfl (vIf_f rfl ⟨AR, nR, cR, rc7.cell rfl, lst k22⟩))
    cases hu : ufind E d.id with
    | none =>
      rw [hu] at hdat
      have he : e = .returned (.tuple #[.slice none 0 0, .int .i64 6]) := hdat
      subst he
      refine ⟨none, 0, 0, 6, rfl, cs, rf4.len, rec_all rc4, d.id, r9.cell rfl, fnd4.mono ?_⟩
      rintro e v5 ⟨f5, rfl⟩
      rw [hu]
      exact ⟨none, 0, 0, false, rfl, tail v5 none 0 0 [] none 0 0 6 false (f4.trans1 f5) (Sl.nil _ _ _) (Sl.nil _ _ _) (by omega) (.inr ⟨rfl, rfl⟩)⟩
    | some x =>
      rw [hu] at hdat
      obtain ⟨A1, n1, c1, rfl, hr1⟩ : ∃ A n c, e = .returned (.tuple #[.slice A n c, .int .i64 0]) ∧ Row v4 v3.heap.size 5 1 A n c (x.l.map bv) := hdat
      refine ⟨A1, n1, c1, 0, rfl, cs, rf4.len, rec_all rc4, d.id, r9.cell rfl, fnd4.mono ?_⟩
      rintro e v5 ⟨f5, rfl⟩
      rw [hu]
      have hxm := ufind_mem hu
      have hxl := inv.lm x hxm
      have hn1 : x.l.length = n1 := by simpa using hr1.len
      obtain ⟨_, _, _, _, _, hbx⟩ := rf4
      exact ⟨x.A, x.n, x.c, true, rfl, tail v5 A1 n1 c1 x.l x.A x.n x.c 0 true (f4.trans1 f5) (f5.sl hr1.sl (fun _ _ _ h => h)) (f5.sl (hbx x hxm).sl (fun _ _ _ h => h)) (by omega) (.inl ⟨rfl, rfl⟩)⟩
  clear live hC
  -- behind both sides' deeds
  have hE1 : ub + 1 ≤ v2.heap.size := by have := q.size; omega
  have done : ∀ (v4 : World) (nn ee : Int) (T' : Tab) (last' : Int) (E' : List Up) (cs0 cs' : List Value), Fr (fun _ => False) w v4 → UpAt v4 ub (fun k => k ≠ rb) T' last' → RecAt v4 rb 38 cs0 → cs0.length = 2 → RfAt v4 (ub + 1) cs' E' last' → RecAt v4 db 40 d.cs → Rel T' (E'.map Up.e) last' → last' ≤ (i : Int) + 1 → (∀ x ∈ E', x.l.length ≤ m + d.l.length) → ZT T' →
      gd (cs'.length == 2) (st v4 rb 0 cs' fun w23 => jnC (F4.k17 (fun v w' => v = .bool true ∧ Fr (fun _ => False) w w') C) ((some ⟨b, o, none⟩, n, c), some ⟨ub, 0, none⟩, (rb, 0), (i : Int), (db, 0), nn, nn, ee, ee, ()) w23) := by
    intro v4 nn ee T' last' E' cs0 cs' g4 up4 rc4 l0 rf4 r9 rel' li' lm' z'
    refine gd_mk (by rw [rf4.len]; rfl) (st2 rc4 l0 rf4.len rf4.one (fun v5 f5 r5 => ?_))
    refine rest v5 nn ee T' last' E' cs' ⟨fr_own g4 f5 wrb, up4.fr f5 (by omega) (fun k hk => hk), r5, ?_, rel', by omega, lm', z'⟩ (r9.fr f5 (by omega))
    obtain ⟨AR, nR, cR, hcs, hrR, hbR⟩ := rf4
    exact ⟨AR, nR, cR, hcs, f5.row hrR (Row_rec_ne hrR rc4 (by decide)), fun x hx => f5.row (hbR x hx) (Row_rec_ne (hbR x hx) rc4 (by decide))⟩
  clear rest
  refine ⟨d.k, r9.cell rfl, vIf_mk (fun hk => ?_) (fun hk0 => vIf_mk (fun hk => ?_) (fun hk => ?_))⟩
  · -- Begin
    refine (begin_calls ub v2 _ T last up2 ⟨rel.last0, by omega⟩).mono ?_
    rintro e v3 ⟨hb, f3⟩
    have g3 := fr_own g2 f3 wub
    have rc3 := rc2.fr f3 (by omega)
    have r9 := r9.fr f3 (by omega)
    have rf3 := rf2.fr f3 (fun k hk h => by omega)
    have rb3 := rbegin_calls (ub + 1) cs E last v3 rf3 (by have := f3.size; omega) (by omega) rel.last0 (by omega)
    have fin : ∀ (T' : Tab) (last' nn ee : Int), rbegin (E.map Up.e) last = ((rbegin (E.map Up.e) last).1, last', nn, ee) → UpAt v3 ub (fun k => k ≠ rb) T' last' → Rel T' (rbegin (E.map Up.e) last).1 last' → last' ≤ (i : Int) + 1 → ZT T' →
        Calls Try.prog 12 #[ofL cs] v3 fun e19 w18 => ∃ a20 : List Value, ∃ i21 : Int, ∃ i22 : Int, e19 = .returned (Value.tuple #[ofL a20, Value.int .i64 i21, Value.int .i64 i22]) ∧ gd (a20.length == 2) (st w18 rb 0 a20 fun w23 => jnC (F4.k17 (fun v w' => v = .bool true ∧ Fr (fun _ => False) w w') C) ((some ⟨b, o, none⟩, n, c), some ⟨ub, 0, none⟩, (rb, 0), (i : Int), (db, 0), nn, i21, ee, i22, ()) w23) := by
      intro T' last' nn ee hrb' up' rel' li' z'
      refine rb3.mono ?_
      rintro e v4 ⟨f4, cs', E', rfl, hE', hrf'⟩
      have e1 : (rbegin (E.map Up.e) last).2.1 = last' := by rw [hrb']
      have e2 : (rbegin (E.map Up.e) last).2.2.1 = nn := by rw [hrb']
      have e3 : (rbegin (E.map Up.e) last).2.2.2 = ee := by rw [hrb']
      rw [e1] at hrf'
      rw [e2, e3]
      refine ⟨cs', nn, ee, rfl, done v4 nn ee T' last' E' cs cs' (g3.trans1 f4) (up'.fr0 f4) (rc3.fr f4 (fun h => h)) rf2.len hrf' (r9.fr f4 (fun h => h)) (by rw [hE']; exact rel') li' (fun x hx => ?_) z'⟩
      have h1 : x.e ∈ E'.map Up.e := List.mem_map.2 ⟨x, hx, rfl⟩
      rw [hE'] at h1
      have := rbegin_len (m := m) (fun y hy => by obtain ⟨z, hz, rfl⟩ := List.mem_map.1 hy; exact lm z hz) last x.e h1
      show x.l.length ≤ _
      have h2 : x.e.2.length = x.l.length := rfl
      omega
    cases hp : pos T 0 with
    | none =>
      rw [hp] at hb
      obtain ⟨rfl, up3⟩ := hb
      have hfull := rel.full hp
      have hrb' : rbegin (E.map Up.e) last = (E.map Up.e, last, 0, 8) := if_pos hfull
      refine ⟨0, 8, rfl, cs, rf3.len, rec_all rc3, fin T last 0 8 (by rw [hrb']) up3 (by rw [hrb']; exact rel) (by omega) zt⟩
    | some j =>
      rw [hp] at hb
      obtain ⟨rfl, up3⟩ := hb
      have hrb' : rbegin (E.map Up.e) last = (E.map Up.e ++ [(last + 1, [])], last + 1, last + 1, 0) := if_neg (rel.room hp)
      have hl0 := rel.last0
      refine ⟨last + 1, 0, rfl, cs, rf3.len, rec_all rc3, fin (T.set j (last + 1, [])) (last + 1) (last + 1) 0 (by rw [hrb']) up3 (by rw [hrb']; exact rel.begin hp) (by omega) (zt.set (fun h => ?_))⟩
      have h : last + 1 = 0 := h
      omega
  · -- Chunk
    refine ⟨d.id, r9.cell rfl, d.off, r9.cell rfl, d.A, d.n, d.c, r9.cell rfl, d.most, r9.cell rfl, (chunk_calls ub d.id d.off d.A d.n d.c d.l d.most v2 _ T last up2 hd2 (by omega) (fun j x hx => by have := hT j x hx; omega) (by omega)).mono ?_⟩
    rintro e v3 ⟨rfl, up3, f3⟩
    have g3 := fr_own g2 f3 wub
    have rc3 := rc2.fr f3 (by omega)
    have r9 := r9.fr f3 (by omega)
    have rf3 := rf2.fr f3 (fun k hk h => by omega)
    have hrb2 := rc2.lt
    have up3 : UpAt v3 ub (fun k => k ≠ rb) (chunkT T d.id d.off d.l d.most).2 last := up3.mono (fun k hk => hk.elim id (fun h h' => by omega))
    have hd3 : Sl v3 1 d.A d.n (d.l.map bv) := g3.sl (hd d hdm) (fun _ _ _ h => h)
    obtain ⟨hce, hcr⟩ := rel.chunk d.id d.off d.l d.most
    refine ⟨_, rfl, cs, rf3.len, rec_all rc3, d.id, r9.cell rfl, d.off, r9.cell rfl, d.A, d.n, d.c, r9.cell rfl, d.most, r9.cell rfl, (rchunk_calls (ub + 1) cs E last d.id d.off d.A d.n d.c d.l d.most v3 rf3 hd3 (by have := f3.size; omega) (by omega) (fun x hx => by have := lm x hx; omega) (by omega)).mono ?_⟩
    rintro e v4 ⟨f4, cs', E', rfl, hE', hrf'⟩
    rw [← hce]
    refine ⟨cs', _, rfl, done v4 0 _ _ last E' cs cs' (g3.trans1 f4) (up3.fr0 f4) (rc3.fr f4 (fun h => h)) rf2.len hrf' (r9.fr f4 (fun h => h)) (by rw [hE']; exact hcr) (by omega) (fun x hx => ?_) (zt.chunk _ _ _ _)⟩
    have h1 : x.e ∈ E'.map Up.e := List.mem_map.2 ⟨x, hx, rfl⟩
    rw [hE'] at h1
    exact rchunk_len (m := m) (fun y hy => by obtain ⟨z, hz, rfl⟩ := List.mem_map.1 hy; exact lm z hz) d.id d.off d.l d.most x.e h1
  · -- End
    refine ⟨d.id, r9.cell rfl, (end_calls ub d.id v2 _ T last up2).mono ?_⟩
    rintro e v3 ⟨rfl, up3, f3⟩
    have g3 := fr_own g2 f3 wub
    have rc3 := rc2.fr f3 (by omega)
    have r9 := r9.fr f3 (by omega)
    have rf3 := rf2.fr f3 (fun k hk h => by omega)
    obtain ⟨hce, hcr⟩ := rel.end_ d.id
    refine ⟨_, rfl, cs, rf3.len, rec_all rc3, d.id, r9.cell rfl, (rend_calls (ub + 1) cs E last d.id v3 rf3 (by have := f3.size; omega) (by omega)).mono ?_⟩
    rintro e v4 ⟨f4, cs', E', rfl, hE', hrf'⟩
    rw [← hce]
    refine ⟨cs', _, rfl, done v4 0 _ _ last E' cs cs' (g3.trans1 f4) (up3.fr0 f4) (rc3.fr f4 (fun h => h)) rf2.len hrf' (r9.fr f4 (fun h => h)) (by rw [hE']; exact hcr) (by omega) (fun x hx => ?_) (zt.end_ _)⟩
    have h1 : x.e ∈ E'.map Up.e := List.mem_map.2 ⟨x, hx, rfl⟩
    rw [hE'] at h1
    have := rend_len (m := m) (fun y hy => by obtain ⟨z, hz, rfl⟩ := List.mem_map.1 hy; exact lm z hz) d.id x.e h1
    have h2 : x.e.2.length = x.l.length := rfl
    omega
end Go.Proofs.Ytihifmamdeafdaa
