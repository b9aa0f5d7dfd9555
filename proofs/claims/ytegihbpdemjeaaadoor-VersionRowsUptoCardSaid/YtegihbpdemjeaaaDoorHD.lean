/- chapter 51: the program's parts: the loop over the iterator -/
import Derived.Test.YtegihbpdemjeaaaDoorHC
import Derived.Test.YtegihbpdemjeaaaDoorG15
import Derived.WalkKit
import Derived.Shelf.Abstract
import Derived.OwnWalkIn
import Derived.TacticsInMore
import Derived.LoopNIn
import Derived.LoopIn
namespace Go.Proofs.YtegihbpdemjeaaaDoor
open Go.GV Go.RowKit Go.Lib
set_option linter.unusedVariables false
set_option linter.unusedSimpArgs false
attribute [local go_sem] Oper.semAt_some
theorem fr_own {S : Nat → Prop} {w u v : World} (f : Fr (fun _ => False) w u) (g : Fr S u v) (hb : ∀ k, S k → w.heap.size ≤ k) : Fr (fun _ => False) w v := f.trans g (fun _ _ h => h) (fun k hk h' => by have := hb k h'; omega)
/-- APPEND to a row of one's own: what becomes of the draws, too -/
theorem app_rowD {w : World} {B : Nat} {e : TypeId} {sz bytes : Nat} {z : List Value} {A : Option Addr} {n c : Nat} {x : Value} {old us : List Value} {m : Nat} {K : Option Addr → Nat → Nat → World → Prop}
    (hr : Row w B e sz A n c old) (hx : srcOf w sz x m us) (h1 : ∀ v ∈ us, v.oneCell' = true) (hz : z.length = sz) (hb : (n + m) * bytes ≤ 140737488355328) (hm : n + m ≤ 9223372036854775807) (hB : B ≤ w.heap.size)
    (hK : ∀ A' c' w', Row w' B e sz A' (n + m) c' (old ++ us) → Fr (fun k => blkOf A = some k) w w' → w.drawn ≤ w'.drawn → (∀ k, blkOf A' = some k → blkOf A = some k ∨ w.heap.size ≤ k) → K A' (n + m) c' w') : app w sz bytes z e A n c x K := by
  have hul : us.length = m * sz := by
    unfold srcOf at hx
    split at hx
    · obtain ⟨rfl, h, _⟩ := hx; exact h
    · obtain ⟨rfl, rfl, rfl⟩ := hx; simp
    · exact hx.elim
  refine ⟨m, us, hx, h1, hb, hm, fun hle => ⟨fun h0 => ?_, fun h0 => ?_⟩, fun hlt => ⟨old, hr.sl.src, fun cap hc1 hc2 => ?_⟩⟩
  · subst h0
    have : us = [] := List.length_eq_zero_iff.1 (by simpa using hul)
    subst this
    exact hK A c w (by rw [List.append_nil]; exact hr) (Fr.refl _ _) (Nat.le_refl _) (fun _ h => .inl h)
  · rcases hr.at_ with ⟨rfl, rfl, rfl⟩ | ⟨b, cs, rfl, hBb, hh, hs, ht⟩
    · omega
    · have hfit : n * sz + us.length ≤ cs.size := by rw [hs, hul, ← Nat.add_mul]; exact Nat.mul_le_mul_right _ hle
      show st w b (0 + n * sz) us _
      rw [Nat.zero_add]
      refine ⟨⟨cs, e, 0, 0, hh, hfit, .inl (Nat.zero_le _)⟩, h1, ?_⟩
      refine hK _ _ _ ⟨by rw [List.length_append, hr.len, hul, Nat.add_mul], hle, .inr ⟨b, _, rfl, hBb, stB_heap hh, ?_, ?_⟩⟩ (Fr.st (fun _ => rfl)) (Nat.le_refl _) (fun _ h => .inl h)
      · simp only [List.size_toArray]; rw [splice_length (by simpa using hfit)]; simpa using hs
      · have := splice_take (vs := us) ht hr.len
        rw [hul, ← Nat.add_mul] at this
        simpa using this
  · refine hK _ _ _ ⟨by rw [List.length_append, hr.len, hul, Nat.add_mul], hc1, .inr ⟨_, _, rfl, ?_, heap_alloc_at _ _, ?_, ?_⟩⟩ ?_ (Nat.le_succ _) (fun k hk => .inr (by simp only [blkOf, Option.some.injEq] at hk; subst hk; exact Nat.le_refl _))
    · exact hB
    · simp only [List.size_toArray, List.length_append, zeros_length, hr.len, hul, hz, ← Nat.add_mul]
      congr 1; omega
    · simp only [List.append_assoc]
      rw [← List.append_assoc, List.take_append_of_le_length (by rw [List.length_append, hr.len, hul, ← Nat.add_mul]; exact Nat.le_refl _), List.take_of_length_le (by rw [List.length_append, hr.len, hul, ← Nat.add_mul]; exact Nat.le_refl _)]
    · exact (Fr.drew _ w).trans1 (Fr.alloc _ _ _)
theorem push_sD {w : World} {B : Nat} {A : Option Addr} {n c : Nat} {out : List ByteArray} {x : ByteArray} {K : Option Addr → Nat → Nat → World → Prop} (hr : Row w B 9 1 A n c (svs out)) (hB : B ≤ w.heap.size) (hn : n ≤ 1099511627776)
    (hK : ∀ A' c' w', Row w' B 9 1 A' (n + 1) c' (svs (out ++ [x])) → Fr (fun k => blkOf A = some k) w w' → w.drawn ≤ w'.drawn → (∀ k, blkOf A' = some k → blkOf A = some k ∨ w.heap.size ≤ k) → K A' (n + 1) c' w') : nw w ([Value.string x] ++ []) 9 fun b w' => app w' 1 16 [Value.string (⟨#[]⟩ : ByteArray)] 9 A n c (.slice (some ⟨b, 0, none⟩) 1 1) K := by
  refine nw_mk ?_
  rw [List.append_nil]
  have f1 : Fr (fun _ => False) w (w.alloc (.cells [Value.string x].toArray 9)) := Fr.alloc _ _ _
  have r1 : Row (w.alloc (.cells [Value.string x].toArray 9)) 0 9 1 (some ⟨w.heap.size, 0, none⟩) 1 1 (svs [x]) := Row.new (Nat.zero_le _) rfl
  have hs : (w.alloc (.cells [Value.string x].toArray 9)).heap.size = w.heap.size + 1 := alloc_size _ _
  have hdr : w.drawn ≤ (w.alloc (.cells [Value.string x].toArray 9)).drawn := Nat.le_refl _
  generalize w.alloc (.cells [Value.string x].toArray 9) = w1 at f1 r1 hs hdr ⊢
  refine app_rowD (f1.row hr (fun _ _ h => h)) r1.sl.src (svs_one [x]) rfl (by omega) (by omega) (by omega) (fun A' c' w' hr' f' hd hA => hK A' c' w' (by rw [svs_app]; exact hr') ?_ (by omega) (fun k hk => (hA k hk).imp id (fun h => by omega)))
  exact f1.trans f' (fun _ _ h => h.elim) (fun _ _ h => h)
theorem Row.blk {w : World} {B : Nat} {e : TypeId} {sz : Nat} {A : Option Addr} {n c : Nat} {vs : List Value} (h : Row w B e sz A n c vs) {k : Nat} (hk : blkOf A = some k) : ∃ cs, w.heap[k]? = some (.cells cs e (0, 0)) := by
  rcases h.at_ with ⟨rfl, _⟩ | ⟨b, cs, rfl, _, hh, _⟩
  · cases hk
  · injection hk with hk
    have hk : b = k := hk
    subst hk
    exact ⟨cs, hh⟩
/-- what is said of the world between two rounds -/
structure PInv (w : World) (l : Bs) (b3 b1 D L : Nat) (rec : Loop) (pre : List Bs) (X : World) : Prop where
  gr : Gr w X
  len : pre.length ≤ (prt l).length
  lp : X.heap[L]? = some (.loop rec)
  df : X.heap[D]? = some (.deferred (some []))
  ro : ∃ A c, RecAt X b3 26 [.slice A pre.length c] ∧ Row X w.heap.size 9 1 A pre.length c (svs (pre.map ba)) ∧ blkOf A ≠ some b1
  b1l : b1 < X.heap.size
theorem PInv.fr {w : World} {l : Bs} {b3 b1 D L : Nat} {rec : Loop} {pre : List Bs} {X Y : World} (h : PInv w l b3 b1 D L rec pre X) {S : Nat → Prop} (f : Fr S X Y) (hd : X.drawn ≤ Y.drawn) (h1 : ∀ k, S k → k ≠ L ∧ k ≠ D ∧ k ≠ b3 ∧ w.heap.size ≤ k) (h2 : ∀ A c k, RecAt X b3 26 [.slice A pre.length c] → blkOf A = some k → ¬ S k) : PInv w l b3 b1 D L rec pre Y := by
  obtain ⟨A, c, q1, q2, q3⟩ := h.ro
  exact ⟨⟨fr_own h.gr.fr f (fun k hk => (h1 k hk).2.2.2), Nat.le_trans h.gr.dr hd⟩, h.len, f.at h.lp (fun hk => (h1 _ hk).1 rfl), f.at h.df (fun hk => (h1 _ hk).2.1 rfl), ⟨A, c, q1.fr f (fun hk => (h1 _ hk).2.2.1 rfl), f.row q2 (fun k hk => h2 A c k q1 hk), q3⟩, Nat.lt_of_lt_of_le h.b1l f.size⟩
noncomputable def regOps (n : Nat) : Code → List Oper
  | .region id ops _ => if Nat.beq id n then ops.toList else []
  | .seq a b => regOps n a ++ regOps n b
  | .block _ b => regOps n b
  | .loop b => regOps n b
  | .cond _ a b => regOps n a ++ regOps n b
  | .rangeFunc _ _ a b => regOps n a ++ regOps n b
  | _ => []
noncomputable def ops4 : List Oper := regOps 4 (Tryd.f9.body.getD .skip)
set_option maxRecDepth 100000 in
theorem body4 (K : World → Prop) (b3 : Nat) (s0 s1 x : ByteArray) (f6 : Value) (X : World) : vcListY Tryd.prog ops4 (fun _ u => K u) ops4 [.string s0, undef, .slice none 0 0, .pointer (some ⟨b3, 0, none⟩), .string x, .string s1, f6, .string x, undef, undef, undef, undef, undef] X =
    (ldSl X b3 0 fun A n c => nw X ([Value.string x] ++ []) 9 fun b w' => app w' 1 16 [Value.string (⟨#[]⟩ : ByteArray)] 9 A n c (.slice (some ⟨b, 0, none⟩) 1 1) fun A n c w2 => st w2 b3 0 [.slice A n c] fun w3 => K w3) := by kernel_rfl
set_option maxHeartbeats 1000000 in
set_option maxRecDepth 100000 in
theorem parts_calls (l : Bs) (w : World) (hn : l.length ≤ 4294967296) :
    Calls Tryd.prog 9 #[.string (ba l)] w fun e w' => Gr w w' ∧ ∃ A c, e = .returned (.slice A (prt l).length c) ∧ Row w' w.heap.size 9 1 A (prt l).length c (svs ((prt l).map ba)) := by
  have hpl := prt_len l
  refine (callsIn_wide (n := 2)).1 (callsIn_of_wp_marks Tryd.func9 rfl trivial ?_)
  simp only [Tryd.ntmps9, List.size_toArray, List.length_cons, List.length_nil, Nat.reduceAdd, Nat.reduceSub, Array.replicate_succ, Array.replicate_zero, List.push_toArray, List.append_toArray, List.nil_append, List.cons_append]
  have seq : ∀ (s : ByteArray) (u : World), CallsIn Fence.wide 1 Tryd.prog 19 #[.string s] u fun e w' => e = .returned (.func (.func 26) #[] #[.pointer (some ⟨u.heap.size, 0, none⟩)]) ∧ w' = u.alloc (.cells #[.string s] 9) := fun s u => by
    refine callsIn_wide.2 ((F19.of s u (Q := fun v w' => v = .func (.func 26) #[] #[.pointer (some ⟨u.heap.size, 0, none⟩)] ∧ w' = u.alloc (.cells #[.string s] 9)) ?_).mono (fun e w' ⟨v, he, hv, h⟩ => ⟨by rw [he, hv], h⟩))
    exact nw_mk ⟨rfl, rfl⟩
  gi_wp2
  refine ⟨trivial, (seq _ _).mono ?_⟩
  rintro e w' ⟨rfl, rfl⟩
  gi_wp2
  rename_i hrest
  have facts : ∀ u : World, u = (w.alloc (.cells [Value.slice none 0 0].toArray 26)).alloc (.cells [Value.string (ba l)].toArray 9) → Fr (fun _ => False) w u ∧ RecAt u w.heap.size 26 [Value.slice none 0 0] ∧ RecAt u (w.heap.size + 1) 9 [Value.string (ba l)] ∧ u.drawn = w.drawn ∧ u.heap.size = w.heap.size + 2 := by
    rintro u rfl
    have r3 := RecAt.new w [Value.slice none 0 0] 26
    have s1 : (w.alloc (.cells [Value.slice none 0 0].toArray 26)).heap.size = w.heap.size + 1 := alloc_size _ _
    have r1 := RecAt.new (w.alloc (.cells [Value.slice none 0 0].toArray 26)) [Value.string (ba l)] 9
    rw [s1] at r1
    exact ⟨(Fr.alloc _ _ _).trans1 (Fr.alloc _ _ _), r3.fr (Fr.alloc (fun _ => False) _ _) (fun h => h), r1, rfl, by rw [alloc_size, s1]⟩
  generalize hwB : World.alloc (World.alloc w _) _ = wB
  obtain ⟨f12, r3, r1, d2, s2⟩ := facts wB hwB.symm
  clear hwB facts
  have hw0 : w.heap.size ≤ w.heap.size := Nat.le_refl _
  generalize hb3 : w.heap.size = b3 at r3 r1 s2 hw0 ⊢
  refine rf_law (gf := 26) (lb := #[Value.pointer (some ⟨b3 + 1, 0, none⟩)]) rfl (enters_of Tryd.func26 (by kernel_rfl) rfl) (fun fn W1 s3 d3 f3 hD hL => ?_)
  have r1 := r1.fr f3 (fun h => h)
  have r3 := r3.fr f3 (fun h => h)
  have h0 : PInv w l b3 (b3 + 1) wB.heap.size (wB.heap.size + 1) _ [] W1 := ⟨⟨f12.trans1 f3, by omega⟩, Nat.zero_le _, hL, hD, ⟨none, 0, r3, Row.nil _ _ _ _, (fun h => by cases h)⟩, by omega⟩
  refine (iter_calls _ (wB.heap.size + 1) (b3 + 1) l W1 hn (fun pre X s s' h hX => ?_) (fun pre X h => ?_) (fun pre x X s hlen h hX => ?_) h0 r1).mono ?_
  · refine h.fr (S := fun k => k = b3 + 1) (Fr.st (fun _ => rfl)) (Nat.le_refl _) (fun k hk => ?_) (fun A c k hA hk e => ?_)
    · have hk : k = b3 + 1 := hk
      omega
    · obtain ⟨A', c', q1, q2, q3⟩ := h.ro
      have e1 := hA.get (q1.cell rfl (o := 0))
      simp only [List.getElem?_cons_zero, Option.some.injEq, Value.slice.injEq] at e1
      have e : k = b3 + 1 := e
      rw [e1.1, e] at hk
      exact q3 hk
  · exact h.fr (Fr.drew (fun _ => False) X) (Nat.le_succ _) (fun k hk => hk.elim) (fun _ _ _ _ _ h => h)
  · obtain ⟨A, c, q1, q2, q3⟩ := h.ro
    refine yld_mk h.lp rfl rfl ?_
    gi_wp2
    refine ⟨h.lp, ?_⟩
    have hLl := heap_lt h.lp
    have key2 : ∀ (o : Obj) (Y : World), World.putObj X (wB.heap.size + 1) o = Y → Fr (fun k => k = wB.heap.size + 1) X Y ∧ Y.drawn = X.drawn ∧ Y.heap[wB.heap.size + 1]? = some o := by
      rintro o Y rfl
      exact ⟨fr_put, rfl, World.putObj_heap_same hLl⟩
    generalize hX2 : World.putObj X _ _ = X2
    obtain ⟨f5, d5, hl2⟩ := key2 _ X2 hX2
    clear hX2 key2
    have hgs := h.gr.fr.size
    have hle := h.len
    have n3 : b3 ≠ wB.heap.size + 1 := by omega
    have n1 : b3 + 1 ≠ wB.heap.size + 1 := by omega
    have aL : ∀ k, blkOf A = some k → k ≠ wB.heap.size + 1 ∧ k ≠ wB.heap.size ∧ k ≠ b3 ∧ k ≠ b3 + 1 := fun k hk => by
      refine ⟨fun e => ?_, fun e => ?_, fun e => ?_, fun e => q3 (by rw [← e]; exact hk)⟩
      · obtain ⟨cs, hcs⟩ := Row.blk q2 hk
        rw [e, h.lp] at hcs; cases hcs
      · obtain ⟨cs, hcs⟩ := Row.blk q2 hk
        rw [e, h.df] at hcs; cases hcs
      · obtain ⟨cs, hcs⟩ := Row.blk q2 hk
        rw [e, show X.heap[b3]? = _ from q1] at hcs
        simp at hcs
    have q1 := q1.fr f5 (fun h => n3 h)
    have hX1 := hX.fr f5 (fun h => n1 h)
    have q2 := f5.row q2 (fun k hk h => (aL k hk).1 h)
    have hdf := f5.at h.df (fun h => by have h : wB.heap.size = wB.heap.size + 1 := h; omega)
    refine wpIn_block (regionY_sound (ro := some (wB.heap.size + 1)) (n := 0) noCount (N := 13) (t := [.string (ba l), undef, .slice none 0 0, .pointer (some ⟨b3, 0, none⟩), .string (ba x), .string (ba l), .func (.func 26) #[] #[.pointer (some ⟨b3 + 1, 0, none⟩)], .string (ba x), undef, undef, undef, undef, undef]) (fun t u _ h => h) rfl ?_)
    refine (body4 _ b3 (ba l) (ba l) (ba x) _ _).mpr ?_
    refine ⟨A, pre.length, c, q1.cell rfl, push_sD q2 (by have := f5.size; omega) (by omega) (fun A' c' X3 hr3 f6 d6 hA' => ?_)⟩
    have nA : ∀ k, blkOf A' = some k → k ≠ b3 := fun k hk e => (hA' k hk).elim (fun h' => (aL k h').2.2.1 e) (fun h' => by have := q1.lt; omega)
    refine (q1.fr f6 (fun hk => (aL b3 hk).2.2.1 rfl)).st_mk (o := 0) (by simp) (fun v hv => by simp at hv; subst hv; rfl) (fun q1 f7 => ?_)
    have d7 : (stB X3 b3 0 [Value.slice A' (pre.length + 1) c']).drawn = X3.drawn := rfl
    have eX : ∀ Y, Y = stB X3 b3 0 [Value.slice A' (pre.length + 1) c'] → Y.drawn = X3.drawn := fun Y e => e ▸ d7
    generalize hX4 : stB X3 b3 0 _ = X4 at q1 f7
    have d7 := eX X4 hX4.symm
    clear hX4 eX
    have hl4 := f7.at (f6.at hl2 (fun hk => (aL _ hk).1 rfl)) (fun h => n3 (show wB.heap.size + 1 = b3 from h).symm)
    have hdf := f7.at (f6.at hdf (fun hk => (aL _ hk).2.1 rfl)) (fun h => by have h : wB.heap.size = b3 := h; omega)
    have hX4 := (hX1.fr f6 (fun hk => (aL _ hk).2.2.2 rfl)).fr f7 (fun h => by have h : b3 + 1 = b3 := h; omega)
    have hr4 := f7.row hr3 (fun k hk h => nA k hk h)
    have s56 := f5.size
    have s6 := f6.size
    have s7 := f7.size
    have hl5 := heap_lt hl4
    refine ⟨by first | rfl | trivial, _, hl4, by first | rfl | trivial, ?_, hX4.fr fr_put (fun h => n1 h)⟩
    have key3 : ∀ (o : Obj) (Y : World), World.putObj X4 (wB.heap.size + 1) o = Y → Fr (fun k => k = wB.heap.size + 1) X4 Y ∧ Y.drawn = X4.drawn ∧ Y.heap[wB.heap.size + 1]? = some o := by
      rintro o Y rfl
      exact ⟨fr_put, rfl, World.putObj_heap_same hl5⟩
    generalize hX5 : World.putObj X4 _ _ = X5
    obtain ⟨f8, d8, hl8⟩ := key3 _ X5 hX5
    clear hX5 key3
    have s8 := f8.size
    have nL : ∀ k, blkOf A' = some k → k ≠ wB.heap.size + 1 := fun k hk e => (hA' k hk).elim (fun h' => (aL k h').1 e) (fun h' => by have := heap_lt hl2; omega)
    refine ⟨⟨?_, ?_⟩, ?_, hl8, f8.at hdf (fun h => by have h : wB.heap.size = wB.heap.size + 1 := h; omega), ⟨A', c', ?_, ?_, fun hk => ?_⟩, ?_⟩
    · refine fr_own (fr_own (fr_own (fr_own h.gr.fr f5 (fun k hk => ?_)) f6 (fun k hk => ?_)) f7 (fun k hk => ?_)) f8 (fun k hk => ?_)
      · have hk : k = wB.heap.size + 1 := hk
        omega
      · exact (q2.blt hk).1
      · have hk : k = b3 := hk
        omega
      · have hk : k = wB.heap.size + 1 := hk
        omega
    · have := h.gr.dr; omega
    · rw [List.length_append, List.length_singleton]; omega
    · rw [List.length_append, List.length_singleton]; exact q1.fr f8 (fun h => n3 h)
    · rw [List.length_append, List.length_singleton, List.map_append]; exact f8.row hr4 (fun k hk h => nL k hk h)
    · rcases hA' _ hk with h' | h'
      · exact q3 h'
      · have := h.b1l; omega
    · have := h.b1l; omega
  · rintro e W' ⟨⟨v, rfl⟩, hP⟩
    obtain ⟨A, c, q1, q2, q3⟩ := hP.ro
    refine ⟨⟨v, rfl⟩, _, hP.lp, (fun h => by cases h), rfl, ?_⟩
    refine hrest _ _ ?_
    generalize hX : World.putObj W' _ _ = X
    have f5 : Fr (fun k => k = wB.heap.size + 1) W' X := hX ▸ fr_put
    have d5 : X.drawn = W'.drawn := hX ▸ rfl
    clear hX
    have hK := f5.at hP.df (fun h => by have h : wB.heap.size = wB.heap.size + 1 := h; omega)
    have hc : X.cell? ⟨b3, 0, none⟩ = some (.slice A (prt l).length c) := f5.cell (q1.cell rfl) (fun h => by have h : b3 = wB.heap.size + 1 := h; omega)
    gi_wp2
    refine ⟨by simp, .inl ⟨_, _, rfl, run_takeDeferred hK, ?_⟩⟩
    have f6 : Fr (fun k => k = wB.heap.size) X (X.putObj wB.heap.size (.deferred none)) := fr_put
    have hgs := hP.gr.fr.size
    refine ⟨_, results_tmp rfl _ _ _, ⟨?_, ?_⟩, A, c, rfl, ?_⟩
    · refine fr_own (fr_own hP.gr.fr f5 (fun k hk => ?_)) f6 (fun k hk => ?_)
      · have hk : k = wB.heap.size + 1 := hk
        omega
      · have hk : k = wB.heap.size := hk
        omega
    · show w.drawn ≤ X.drawn
      have := hP.gr.dr; omega
    · have q4 := f5.row q2 (fun k hk h => by
        obtain ⟨cs, hcs⟩ := Row.blk q2 hk
        rw [show k = wB.heap.size + 1 from h, hP.lp] at hcs; cases hcs)
      exact f6.row q4 (fun k hk h => by
        obtain ⟨cs, hcs⟩ := Row.blk q4 hk
        rw [show k = wB.heap.size from h, hK] at hcs; cases hcs)
end Go.Proofs.YtegihbpdemjeaaaDoor
