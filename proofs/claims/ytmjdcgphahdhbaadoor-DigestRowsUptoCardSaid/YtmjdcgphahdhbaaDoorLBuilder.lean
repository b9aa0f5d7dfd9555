/- chapter 03: strings.Builder. -/
import Derived.Test.YtmjdcgphahdhbaaDoorV
import Derived.Test.YtmjdcgphahdhbaaDoorG8
import Derived.Test.YtmjdcgphahdhbaaDoorLBuilderS
import Derived.WalkKit
import Derived.Shelf.Strings.BuilderK
namespace Go.Proofs.YtmjdcgphahdhbaaDoor
open Go.GV Go.RowKit
set_option linter.unusedVariables false
/-- a row whose first cells a string may share -/
structure RowF (w : World) (B : Nat) (e : TypeId) (A : Option Addr) (n c : Nat) (vs : List Value) : Prop where
  len : vs.length = n
  le : n ≤ c
  at_ : (A = none ∧ n = 0 ∧ c = 0) ∨ ∃ b cs f, A = some ⟨b, 0, none⟩ ∧ B ≤ b ∧ w.heap[b]? = some (.cells cs e f) ∧ f.2 ≤ n ∧ c ≤ 9223372036854775807 ∧ cs.size = c ∧ cs.toList.take n = vs
theorem RowF.of_own {w : World} {B : Nat} {e : TypeId} {v : Value} {n : Nat} {vs : List Value} (h : w.ownsRowF B e 1 v n vs) : ∃ A c, v = .slice A n c ∧ RowF w B e A n c vs := by
  obtain ⟨h1, ⟨rfl, rfl⟩ | ⟨g, cap, cur, fz, rfl, h2, h3, h4, h5, h6, h7, h8⟩⟩ := h
  · exact ⟨none, 0, rfl, by simpa using h1, Nat.le_refl _, .inl ⟨rfl, rfl, rfl⟩⟩
  · have hm : cap ≤ 9223372036854775807 := by simpa [maxLen] using h6
    exact ⟨_, _, rfl, by simpa using h1, h5, .inr ⟨g, cur, fz, rfl, h2, h3, by simpa using h4, hm, by simpa using h7, by simpa using h8⟩⟩
theorem RowF.own {w : World} {B : Nat} {e : TypeId} {A : Option Addr} {n c : Nat} {vs : List Value} (h : RowF w B e A n c vs) : w.ownsRowF B e 1 (.slice A n c) n vs := by
  refine ⟨by simpa using h.len, ?_⟩
  rcases h.at_ with ⟨rfl, rfl, rfl⟩ | ⟨b, cs, f, rfl, h2, h3, h4, h5, h6, h7⟩
  · exact .inl ⟨rfl, rfl⟩
  · exact .inr ⟨b, c, cs, f, rfl, h2, h3, by simpa using h4, h.le, by unfold maxLen; omega, by simpa using h6, by simpa using h7⟩
theorem RowF.sl {w : World} {B : Nat} {e : TypeId} {A : Option Addr} {n c : Nat} {vs : List Value} (h : RowF w B e A n c vs) : Sl w 1 A n vs := by
  refine ⟨by simpa using h.len, fun h0 => ?_⟩
  rcases h.at_ with ⟨_, h1, _⟩ | ⟨b, cs, f, rfl, _, hb, _, _, hs, ht⟩
  · exact absurd h1 h0
  · exact ⟨b, 0, rfl, cellsAt_take hb ht⟩
theorem app_rowF {w : World} {B : Nat} {e : TypeId} {bytes : Nat} {z : List Value} {A : Option Addr} {n c : Nat} {x : Value} {old us : List Value} {m : Nat} {K : Option Addr → Nat → Nat → World → Prop}
    (hr : RowF w B e A n c old) (hx : srcOf w 1 x m us) (h1 : ∀ v ∈ us, v.oneCell' = true) (hz : z.length = 1) (hb : (n + m) * bytes ≤ 140737488355328) (hm : n + m ≤ 9223372036854775807) (hB : B ≤ w.heap.size)
    (hK : ∀ A' c' w', RowF w' B e A' (n + m) c' (old ++ us) → Fr (fun k => blkOf A = some k) w w' → K A' (n + m) c' w') : app w 1 bytes z e A n c x K := by
  have hul : us.length = m := by
    unfold srcOf at hx
    split at hx
    · obtain ⟨rfl, h, _⟩ := hx; simpa using h
    · obtain ⟨_, rfl, rfl⟩ := hx; simp
    · exact hx.elim
  refine ⟨m, us, hx, h1, hb, hm, fun hle => ⟨fun h0 => ?_, fun h0 => ?_⟩, fun hlt => ⟨old, hr.sl.src, fun cap hc1 hc2 => ?_⟩⟩
  · subst h0
    have : us = [] := List.length_eq_zero_iff.1 hul
    subst this
    exact hK A c w (by rw [List.append_nil]; exact hr) (Fr.refl _ _)
  · rcases hr.at_ with ⟨rfl, rfl, rfl⟩ | ⟨b, cs, f, rfl, hBb, hh, hf, hcm, hs, ht⟩
    · omega
    · have hfit : n + us.length ≤ cs.size := by rw [hs, hul]; exact hle
      show st w b (0 + n * 1) us _
      rw [Nat.zero_add, Nat.mul_one]
      refine ⟨⟨cs, e, f.1, f.2, hh, hfit, .inl hf⟩, h1, ?_⟩
      refine hK _ _ _ ⟨by rw [List.length_append, hr.len, hul], hle, .inr ⟨b, _, f, rfl, hBb, stB_heap hh, by omega, hcm, ?_, ?_⟩⟩ (Fr.st (fun _ => rfl))
      · simp only [List.size_toArray]; rw [splice_length (by simpa using hfit)]; simpa using hs
      · have := splice_take (vs := us) ht hr.len
        rw [hul] at this
        simpa using this
  · refine hK _ _ _ ⟨by rw [List.length_append, hr.len, hul], hc1, .inr ⟨_, _, (0, 0), rfl, ?_, heap_alloc_at _ _, Nat.zero_le _, hc2, ?_, ?_⟩⟩ ?_
    · exact hB
    · simp only [List.size_toArray, List.length_append, zeros_length, hr.len, hul, hz]
      omega
    · simp only [List.append_assoc]
      rw [← List.append_assoc, List.take_append_of_le_length (by rw [List.length_append, hr.len, hul]; exact Nat.le_refl _), List.take_of_length_le (by rw [List.length_append, hr.len, hul]; exact Nat.le_refl _)]
    · exact (Fr.drew _ w).trans1 (Fr.alloc _ _ _)

theorem sizeBuilder : (Tryd.prog.info? 71).map (·.size) = some 2 := by kernel_rfl
theorem liesBuilder : liesAt Tryd.prog Tryd.prog.depth 71 (2 / Tryd.prog.cellsOf 71) 0 71 1 = true := by kernel_rfl
set_option maxHeartbeats 1000000 in
set_option maxRecDepth 100000 in
theorem copyCheck_used (b : Nat) (w : World) (h0 : w.cell? ⟨b, 0, none⟩ = some (.pointer (some ⟨b, 0, none⟩))) :
    Calls Tryd.prog 53 #[.pointer (some ⟨b, 0, none⟩)] w fun e w' => e = .returned (.tuple #[]) ∧ w' = w := by
  obtain ⟨j, hj, _⟩ := Option.map_eq_some_iff.1 sizeBuilder
  go_enter Tryd.func53, Tryd.ntmps53
  go_wp2
  rw [Lib.run_neq_ptr_same w _ Tryd.underlying69 hj]
  go_wp2
  go_end0
  exact ⟨rfl, rfl⟩
set_option maxHeartbeats 1000000 in
set_option maxRecDepth 100000 in
theorem copyCheck_fresh (b : Nat) (w : World) (h0 : w.cell? ⟨b, 0, none⟩ = some (.pointer none)) (hsh : w.shape? b = some (71, 2)) (hfz : w.frozen? ⟨b, 0, none⟩ = false) :
    Calls Tryd.prog 53 #[.pointer (some ⟨b, 0, none⟩)] w fun e w' => e = .returned (.tuple #[]) ∧ w' = w.setCell ⟨b, 0, none⟩ (.pointer (some ⟨b, 0, none⟩)) := by
  obtain ⟨j, hj, hjs⟩ := Option.map_eq_some_iff.1 sizeBuilder
  go_enter Tryd.func53, Tryd.ntmps53
  go_wp2
  rw [Lib.run_to_unsafe w ⟨b, 0, none⟩ Tryd.underlying69 Tryd.underlying100 hj (by rw [hjs]; decide) hsh (Nat.zero_lt_succ 1)]
  simp only [Result.andThen]
  rw [Oper.upon_value]
  go_wp2
  rw [run_callFunc_extern Tryd.func66 (by kernel_rfl) (by kernel_rfl) (by kernel_rfl) (e := Extern.AbiNoEscape.same) (by kernel_rfl)]
  rw [Lib.run_noEscape]
  simp only [Result.andThen]
  rw [Oper.upon_value]
  go_wp2
  rw [Lib.run_from_unsafe w ⟨b, 0, none⟩ Tryd.underlying100 Tryd.underlying69 hj hsh liesBuilder]
  simp only [Result.andThen]
  rw [Oper.upon_value]
  go_wp2
  go_end0
  exact ⟨rfl, rfl⟩
theorem fr_setCell {w : World} {b o : Nat} {v : Value} : Fr (fun k => k = b) w (w.setCell ⟨b, o, none⟩ v) :=
  ⟨rfl, rfl, rfl, by simp [World.setCell], fun k _ hn => by simp [World.setCell, Array.getElem?_modify, Ne.symm hn]⟩
theorem copyCheck (B b : Nat) (bs : List Value) (w : World) (h : Lib.IsBuilderF 71 5 B b bs w) :
    Calls Tryd.prog 53 #[.pointer (some ⟨b, 0, none⟩)] w fun e w' => e = .returned (.tuple #[]) ∧ Lib.BuilderAtF 71 5 B b (.pointer (some ⟨b, 0, none⟩)) bs w' ∧ Fr (fun k => k = b) w w' := by
  rcases h with h | h
  · refine (copyCheck_fresh b w h.cell0 h.shape h.frozen0).mono ?_
    rintro e w' ⟨rfl, rfl⟩
    exact ⟨rfl, h.used _, fr_setCell⟩
  · refine (copyCheck_used b w h.cell0).mono ?_
    rintro e w' ⟨rfl, rfl⟩
    exact ⟨rfl, h, Fr.refl _ _⟩
/-- WriteByte: one byte more; nothing else below B is touched -/
theorem writeByte (B b : Nat) (bs : List Value) (c : UInt8) (w : World) (h : Lib.IsBuilderF 71 5 B b bs w) (hl : bs.length + 1 ≤ 140737488355328) (hB : B ≤ w.heap.size) :
    Calls Tryd.prog 44 #[.pointer (some ⟨b, 0, none⟩), bv c] w fun e w' => e = .returned .nilIface ∧ Lib.IsBuilderF 71 5 B b (bs ++ [bv c]) w' ∧ Fr (fun k => B ≤ k) w w' := by
  refine (F44.of (some ⟨b, 0, none⟩) c.toNat w (Q := fun v w' => v = .nilIface ∧ Lib.IsBuilderF 71 5 B b (bs ++ [bv c]) w' ∧ Fr (fun k => B ≤ k) w w') ?_).mono (fun e w' ⟨v, he, hv, h1, h2⟩ => ⟨by rw [he, hv], h1, h2⟩)
  refine (copyCheck B b bs w h).mono ?_
  rintro e w1 ⟨rfl, h1, f1⟩
  refine ⟨rfl, ?_⟩
  obtain ⟨hBb, v, hh, hown, hne⟩ := h1
  obtain ⟨A, cp, rfl, hrow⟩ := RowF.of_own hown
  show ldSl w1 b (0 + 1) _
  refine ⟨A, bs.length, cp, by rw [cellAt_blk hh]; rfl, ?_⟩
  have hA : ∀ g, blkOf A = some g → g ≠ b := fun g hg he => hne (by subst he; cases A <;> simp_all [blkOf, Value.ownBlock])
  have hB1 : B ≤ w1.heap.size := Nat.le_trans hB f1.size
  have hrow2 : RowF (w1.alloc (.cells ([Value.int .u8 c.toNat] ++ []).toArray 5)) B 5 A bs.length cp bs := by
    refine ⟨hrow.len, hrow.le, ?_⟩
    rcases hrow.at_ with hh | ⟨g, cs, f, e1, e2, e3, e4⟩
    · exact .inl hh
    · exact .inr ⟨g, cs, f, e1, e2, (heap_alloc_lt (heap_lt e3)).trans e3, e4⟩
  have hsrc : srcOf (w1.alloc (.cells [Value.int .u8 c.toNat].toArray 5)) 1 (.slice (some ⟨w1.heap.size, 0, none⟩) 1 1) 1 [bv c] :=
    (Row.new (sz := 1) (n := 1) (B := 0) (vs := [bv c]) (Nat.zero_le _) rfl).sl.src
  refine nw_mk ?_
  refine app_rowF hrow2 hsrc (bvs_one [c]) rfl (by omega) (by omega) (by rw [alloc_size]; omega) ?_
  intro A' c' w2 hr2 f2
  have hb2 : w2.heap[b]? = some (.cells #[.pointer (some ⟨b, 0, none⟩), .slice A bs.length cp] 71 (0, 0)) :=
    f2.at ((heap_alloc_lt (heap_lt hh)).trans hh) (fun hA' => hA b hA' rfl)
  show st w2 b (0 + 1) _ _
  refine ⟨⟨_, _, 0, 0, hb2, by simp, .inl (Nat.zero_le _)⟩, (by intro v hv; simp only [List.mem_singleton] at hv; subst hv; rfl), rfl, .inr ⟨hBb, .slice A' (bs.length + 1) c', ?_, ?_, ?_⟩, ?_⟩
  · rw [stB_heap hb2]; rfl
  · have h3 := hr2.own
    have e : (bs ++ [bv c]).length = bs.length + 1 := by simp
    rw [e]
    refine ⟨h3.1, ?_⟩
    rcases h3.2 with h4 | ⟨g, cap, cur, fz, h4, h5, h6, h7⟩
    · exact .inl h4
    · refine .inr ⟨g, cap, cur, fz, h4, h5, ?_, h7⟩
      rw [stB_other, h6]
      intro hg
      subst hg
      rw [hb2] at h6
      injection h6 with h6
      injection h6 with _ h6 _
      exact absurd h6 (by decide)
  · intro hg
    rcases hr2.at_ with ⟨_, h0, _⟩ | ⟨g, cs, f, rfl, _, h6, _⟩
    · omega
    · simp only [Value.ownBlock, Option.some.injEq] at hg
      subst hg
      rw [hb2] at h6
      injection h6 with h6
      injection h6 with _ h6 _
      exact absurd h6 (by decide)
  · have fa : Fr (fun k => B ≤ k) w (w1.alloc (.cells [Value.int .u8 c.toNat].toArray 5)) := f1.trans (Fr.alloc (fun _ => False) w1 _) (fun k _ h => by rw [h]; exact hBb) (fun _ _ h => h.elim)
    have fb : Fr (fun k => B ≤ k) (w1.alloc (.cells [Value.int .u8 c.toNat].toArray 5)) w2 := f2.mono (fun k hk hs => by
      rcases hrow.at_ with ⟨rfl, _⟩ | ⟨g, cs, f, rfl, hg, _⟩
      · cases hs
      · simp only [blkOf, Option.some.injEq] at hs; subst hs; exact hg)
    have fc : Fr (fun k => B ≤ k) w2 (stB w2 b 1 [.slice A' (bs.length + 1) c']) := Fr.st (fun _ => hBb)
    exact (fa.trans1 fb).trans1 fc
end Go.Proofs.YtmjdcgphahdhbaaDoor
