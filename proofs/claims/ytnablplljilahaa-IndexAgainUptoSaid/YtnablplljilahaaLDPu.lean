/- rows of digests: one more -/
import Derived.Test.YtnablplljilahaaLDRowD
namespace Go.Proofs.Ytnablplljilahaa.Dg
open Go.GV Go.RowKit Go.Lib
set_option linter.unusedVariables false
set_option linter.unusedSimpArgs false
theorem push_dig {w : World} {B : Nat} {A : Option Addr} {n c : Nat} {out : List Dig} {d : Dig} {K : Option Addr → Nat → Nat → World → Prop} (hr : Row w B 29 32 A n c (dcs out)) (hd : d.length = 32) (hB : B ≤ w.heap.size) (hn : n ≤ 2199023255552)
    (hK : ∀ A' c' w', Row w' B 29 32 A' (n + 1) c' (dcs (out ++ [d])) → Fr (fun k => blkOf A = some k) w w' → K A' (n + 1) c' w') : nw w (d.map bv ++ []) 29 fun b w' => app w' 32 32 Z29 29 A n c (.slice (some ⟨b, 0, none⟩) 1 1) K := by
  refine nw_mk ?_
  rw [List.append_nil]
  have f1 : Fr (fun _ => False) w (w.alloc (.cells (d.map bv).toArray 29)) := Fr.alloc _ _ _
  have r1 : Row (w.alloc (.cells (d.map bv).toArray 29)) 0 29 32 (some ⟨w.heap.size, 0, none⟩) 1 1 (dcs [d]) := by
    rw [dcs_one]; exact Row.new (Nat.zero_le _) (by rw [List.length_map, hd])
  have hs : (w.alloc (.cells (d.map bv).toArray 29)).heap.size = w.heap.size + 1 := alloc_size _ _
  generalize w.alloc (.cells (d.map bv).toArray 29) = w1 at f1 r1 hs ⊢
  have hA : ∀ k, blkOf A = some k → k < w.heap.size := fun k hk => (hr.blt hk).2
  refine app_row (f1.row hr (fun _ _ h => h)) r1.sl.src (dcs_oneCell [d]) (by decide +kernel) (by omega) (by omega) (by omega) (fun A' c' w' hr' f' => hK A' c' w' (by rw [dcs_append]; exact hr') ?_)
  exact f1.trans f' (fun _ _ h => h.elim) (fun _ _ h => h)
end Go.Proofs.Ytnablplljilahaa.Dg
