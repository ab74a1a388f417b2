/-
  The hash of 256 bits: streams. Conditions: none.
-/
import Derived.Test.YtafehbnnoncieaaDoorHashH
import Derived.Test.YtafehbnnoncieaaDoorArr3
import Derived.Test.YtafehbnnoncieaaDoorShaQ
namespace Go.Proofs.YtafehbnnoncieaaDoor
open Go.RowKit
theorem aggStr : Agg Tryd.prog 53 73 := ⟨⟨_, Tryd.underlying53, rfl⟩, by kernel_rfl⟩
theorem aggSum : Agg Tryd.prog 47 32 := ⟨⟨_, Tryd.underlying47, rfl⟩, by kernel_rfl⟩
namespace Sha
/-- The cells of a stream. -/
def strF (s : St) (blk : List UInt8) (n : Nat) (i : Nat) : Value := if i < 8 then stF s i else if i < 72 then bv (blk.getD (i - 8) 0) else .int .u64 (n : Int)
theorem strF_one (s : St) (blk : List UInt8) (n i : Nat) : (strF s blk n i).oneCell' = true := by
  unfold strF; split
  · rfl
  · split <;> rfl
/-- The stream v has been given the message m. -/
def IsStream (v : Value) (m : List UInt8) : Prop := ∃ blk : List UInt8, v = .agg (arr 73 (strF (feed (m.length / 64) init m) blk m.length)) ∧ blk.length = 64 ∧ blk.take (m.length % 64) = m.drop (64 * (m.length / 64))
end Sha

def zF : Nat → Value := Sha.strF ⟨0#32, 0#32, 0#32, 0#32, 0#32, 0#32, 0#32, 0#32⟩ (List.replicate 64 0) 0
theorem str_zero (w : World) : (zeroValue 53).run Tryd.prog w = .ok (.agg (arr 73 zF)) w := by kernel_rfl

set_option maxHeartbeats 1000000 in
set_option maxRecDepth 100000 in
theorem hash_Begin (w : World) :
    Calls Tryd.prog 31 #[] w fun e w' => ∃ v, e = .returned v ∧ Sha.IsStream v [] ∧ Below w.heap.size w w' := by
  have hb : ((Tryd.prog.built 53 [(0, .agg ((Tryd.prog.built 50 [(0, .int .u32 1779033703), (1, .int .u32 3144134277), (2, .int .u32 1013904242), (3, .int .u32 2773480762), (4, .int .u32 1359893119), (5, .int .u32 2600822924), (6, .int .u32 528734635), (7, .int .u32 1541459225)]).getD #[]))]).getD #[]) = arr 73 (Sha.strF Sha.init (List.replicate 64 0) 0) := by kernel_rfl
  have hz := str_zero
  go_enter Tryd.func31, Tryd.ntmps31
  go_wp2_with (first | (refine wpList_build (o := ⟨some 1, _, _, _, _, _⟩) rfl _ _ rfl (by kernel_rfl) ?_) | (refine wpList_build (o := ⟨some 2, _, _, _, _, _⟩) rfl _ _ rfl (by kernel_rfl) ?_) |
    (refine wpList_store_fresh (o := ⟨none, _, _, _, _, _⟩) rfl _ _ _ rfl _ (arr 73 (Sha.strF Sha.init (List.replicate 64 0) 0)) rfl ?_ aggStr (arr_size _ _) (arr_size _ _) (arr_ones (fun i _ => Sha.strF_one _ _ _ i)) ?_))
  try go_frame
  exact bodyPost_arr (p := 0) (by rfl) (row_alloc w _ 73 _) (by rfl) aggStr (by rfl) ⟨_, rfl, ⟨List.replicate 64 0, rfl, rfl, rfl⟩, (Below.refl _ _).alloc (Nat.le_refl _) _⟩

end Go.Proofs.YtafehbnnoncieaaDoor
