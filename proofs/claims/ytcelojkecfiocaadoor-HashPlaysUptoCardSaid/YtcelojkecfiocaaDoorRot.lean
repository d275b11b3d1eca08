/- Rotations of words: bits.RotateLeft32 at the ten counts that the program takes, and the reference's rot and sh at theirs. Conditions: the counts. -/
import Derived.Test.YtcelojkecfiocaaDoorBv
import Derived.Test.YtcelojkecfiocaaDoorSha
namespace Go.Proofs.YtcelojkecfiocaaDoor.Rot
open Go.RowKit Go.Proofs.YtcelojkecfiocaaDoor.Bv
open Go.Proofs.YtcelojkecfiocaaDoor.Sha (rotr)

theorem ret_tn {a b : BitVec 32} (h : a = b) : Ending.returned (.int .u32 (tn a)) = .returned (.int .u32 (tn b)) := by rw [h]

theorem rotl_2 (x : BitVec 32) (w : World) :
    Calls Tryd.prog 45 #[.int .u32 (tn x), .int .i64 (-2)] w fun e w' => e = .returned (.int .u32 (tn (rotr x 2))) ∧ w = w' := by
  have hb : bits BinOp.and IntKind.u64 (IntKind.u64.wrap (-2)) 31 = 30 := by decide
  go_enter Tryd.func45, Tryd.ntmps45
  go_wp2
  go_ret
  exact ⟨ret_tn (BitVec.or_comm _ _), rfl⟩
theorem rot_2 (x : BitVec 32) (w : World) :
    Calls Tryd.prog 43 #[.int .u32 (tn x), .int .u64 2] w fun e w' => e = .returned (.int .u32 (tn (rotr x 2))) ∧ w = w' := by
  go_enter Tryd.func43, Tryd.ntmps43
  go_wp2
  go_ret
  exact ⟨rfl, rfl⟩

theorem rotl_6 (x : BitVec 32) (w : World) :
    Calls Tryd.prog 45 #[.int .u32 (tn x), .int .i64 (-6)] w fun e w' => e = .returned (.int .u32 (tn (rotr x 6))) ∧ w = w' := by
  have hb : bits BinOp.and IntKind.u64 (IntKind.u64.wrap (-6)) 31 = 26 := by decide
  go_enter Tryd.func45, Tryd.ntmps45
  go_wp2
  go_ret
  exact ⟨ret_tn (BitVec.or_comm _ _), rfl⟩
theorem rot_6 (x : BitVec 32) (w : World) :
    Calls Tryd.prog 43 #[.int .u32 (tn x), .int .u64 6] w fun e w' => e = .returned (.int .u32 (tn (rotr x 6))) ∧ w = w' := by
  go_enter Tryd.func43, Tryd.ntmps43
  go_wp2
  go_ret
  exact ⟨rfl, rfl⟩

theorem rotl_7 (x : BitVec 32) (w : World) :
    Calls Tryd.prog 45 #[.int .u32 (tn x), .int .i64 (-7)] w fun e w' => e = .returned (.int .u32 (tn (rotr x 7))) ∧ w = w' := by
  have hb : bits BinOp.and IntKind.u64 (IntKind.u64.wrap (-7)) 31 = 25 := by decide
  go_enter Tryd.func45, Tryd.ntmps45
  go_wp2
  go_ret
  exact ⟨ret_tn (BitVec.or_comm _ _), rfl⟩
theorem rot_7 (x : BitVec 32) (w : World) :
    Calls Tryd.prog 43 #[.int .u32 (tn x), .int .u64 7] w fun e w' => e = .returned (.int .u32 (tn (rotr x 7))) ∧ w = w' := by
  go_enter Tryd.func43, Tryd.ntmps43
  go_wp2
  go_ret
  exact ⟨rfl, rfl⟩

theorem rotl_11 (x : BitVec 32) (w : World) :
    Calls Tryd.prog 45 #[.int .u32 (tn x), .int .i64 (-11)] w fun e w' => e = .returned (.int .u32 (tn (rotr x 11))) ∧ w = w' := by
  have hb : bits BinOp.and IntKind.u64 (IntKind.u64.wrap (-11)) 31 = 21 := by decide
  go_enter Tryd.func45, Tryd.ntmps45
  go_wp2
  go_ret
  exact ⟨ret_tn (BitVec.or_comm _ _), rfl⟩
theorem rot_11 (x : BitVec 32) (w : World) :
    Calls Tryd.prog 43 #[.int .u32 (tn x), .int .u64 11] w fun e w' => e = .returned (.int .u32 (tn (rotr x 11))) ∧ w = w' := by
  go_enter Tryd.func43, Tryd.ntmps43
  go_wp2
  go_ret
  exact ⟨rfl, rfl⟩

theorem rotl_13 (x : BitVec 32) (w : World) :
    Calls Tryd.prog 45 #[.int .u32 (tn x), .int .i64 (-13)] w fun e w' => e = .returned (.int .u32 (tn (rotr x 13))) ∧ w = w' := by
  have hb : bits BinOp.and IntKind.u64 (IntKind.u64.wrap (-13)) 31 = 19 := by decide
  go_enter Tryd.func45, Tryd.ntmps45
  go_wp2
  go_ret
  exact ⟨ret_tn (BitVec.or_comm _ _), rfl⟩
theorem rot_13 (x : BitVec 32) (w : World) :
    Calls Tryd.prog 43 #[.int .u32 (tn x), .int .u64 13] w fun e w' => e = .returned (.int .u32 (tn (rotr x 13))) ∧ w = w' := by
  go_enter Tryd.func43, Tryd.ntmps43
  go_wp2
  go_ret
  exact ⟨rfl, rfl⟩

theorem rotl_17 (x : BitVec 32) (w : World) :
    Calls Tryd.prog 45 #[.int .u32 (tn x), .int .i64 (-17)] w fun e w' => e = .returned (.int .u32 (tn (rotr x 17))) ∧ w = w' := by
  have hb : bits BinOp.and IntKind.u64 (IntKind.u64.wrap (-17)) 31 = 15 := by decide
  go_enter Tryd.func45, Tryd.ntmps45
  go_wp2
  go_ret
  exact ⟨ret_tn (BitVec.or_comm _ _), rfl⟩
theorem rot_17 (x : BitVec 32) (w : World) :
    Calls Tryd.prog 43 #[.int .u32 (tn x), .int .u64 17] w fun e w' => e = .returned (.int .u32 (tn (rotr x 17))) ∧ w = w' := by
  go_enter Tryd.func43, Tryd.ntmps43
  go_wp2
  go_ret
  exact ⟨rfl, rfl⟩

theorem rotl_18 (x : BitVec 32) (w : World) :
    Calls Tryd.prog 45 #[.int .u32 (tn x), .int .i64 (-18)] w fun e w' => e = .returned (.int .u32 (tn (rotr x 18))) ∧ w = w' := by
  have hb : bits BinOp.and IntKind.u64 (IntKind.u64.wrap (-18)) 31 = 14 := by decide
  go_enter Tryd.func45, Tryd.ntmps45
  go_wp2
  go_ret
  exact ⟨ret_tn (BitVec.or_comm _ _), rfl⟩
theorem rot_18 (x : BitVec 32) (w : World) :
    Calls Tryd.prog 43 #[.int .u32 (tn x), .int .u64 18] w fun e w' => e = .returned (.int .u32 (tn (rotr x 18))) ∧ w = w' := by
  go_enter Tryd.func43, Tryd.ntmps43
  go_wp2
  go_ret
  exact ⟨rfl, rfl⟩

theorem rotl_19 (x : BitVec 32) (w : World) :
    Calls Tryd.prog 45 #[.int .u32 (tn x), .int .i64 (-19)] w fun e w' => e = .returned (.int .u32 (tn (rotr x 19))) ∧ w = w' := by
  have hb : bits BinOp.and IntKind.u64 (IntKind.u64.wrap (-19)) 31 = 13 := by decide
  go_enter Tryd.func45, Tryd.ntmps45
  go_wp2
  go_ret
  exact ⟨ret_tn (BitVec.or_comm _ _), rfl⟩
theorem rot_19 (x : BitVec 32) (w : World) :
    Calls Tryd.prog 43 #[.int .u32 (tn x), .int .u64 19] w fun e w' => e = .returned (.int .u32 (tn (rotr x 19))) ∧ w = w' := by
  go_enter Tryd.func43, Tryd.ntmps43
  go_wp2
  go_ret
  exact ⟨rfl, rfl⟩

theorem rotl_22 (x : BitVec 32) (w : World) :
    Calls Tryd.prog 45 #[.int .u32 (tn x), .int .i64 (-22)] w fun e w' => e = .returned (.int .u32 (tn (rotr x 22))) ∧ w = w' := by
  have hb : bits BinOp.and IntKind.u64 (IntKind.u64.wrap (-22)) 31 = 10 := by decide
  go_enter Tryd.func45, Tryd.ntmps45
  go_wp2
  go_ret
  exact ⟨ret_tn (BitVec.or_comm _ _), rfl⟩
theorem rot_22 (x : BitVec 32) (w : World) :
    Calls Tryd.prog 43 #[.int .u32 (tn x), .int .u64 22] w fun e w' => e = .returned (.int .u32 (tn (rotr x 22))) ∧ w = w' := by
  go_enter Tryd.func43, Tryd.ntmps43
  go_wp2
  go_ret
  exact ⟨rfl, rfl⟩

theorem rotl_25 (x : BitVec 32) (w : World) :
    Calls Tryd.prog 45 #[.int .u32 (tn x), .int .i64 (-25)] w fun e w' => e = .returned (.int .u32 (tn (rotr x 25))) ∧ w = w' := by
  have hb : bits BinOp.and IntKind.u64 (IntKind.u64.wrap (-25)) 31 = 7 := by decide
  go_enter Tryd.func45, Tryd.ntmps45
  go_wp2
  go_ret
  exact ⟨ret_tn (BitVec.or_comm _ _), rfl⟩
theorem rot_25 (x : BitVec 32) (w : World) :
    Calls Tryd.prog 43 #[.int .u32 (tn x), .int .u64 25] w fun e w' => e = .returned (.int .u32 (tn (rotr x 25))) ∧ w = w' := by
  go_enter Tryd.func43, Tryd.ntmps43
  go_wp2
  go_ret
  exact ⟨rfl, rfl⟩

theorem sh_3 (x : BitVec 32) (w : World) :
    Calls Tryd.prog 48 #[.int .u32 (tn x), .int .u64 3] w fun e w' => e = .returned (.int .u32 (tn (x >>> 3))) ∧ w = w' := by
  go_enter Tryd.func48, Tryd.ntmps48
  go_wp2
  go_ret
  exact ⟨rfl, rfl⟩

theorem sh_10 (x : BitVec 32) (w : World) :
    Calls Tryd.prog 48 #[.int .u32 (tn x), .int .u64 10] w fun e w' => e = .returned (.int .u32 (tn (x >>> 10))) ∧ w = w' := by
  go_enter Tryd.func48, Tryd.ntmps48
  go_wp2
  go_ret
  exact ⟨rfl, rfl⟩

end Go.Proofs.YtcelojkecfiocaaDoor.Rot
