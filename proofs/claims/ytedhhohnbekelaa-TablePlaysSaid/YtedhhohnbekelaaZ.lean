/- Two equal tasks are equal. No condition. -/
import Derived.Test.YtedhhohnbekelaaY
import Derived.Laws.StructEq
import Derived.ChangeKeysEq
namespace Go.Proofs.Ytedhhohnbekelaa
open Go.RowKit Go.Deep

theorem info21 : ∃ i, Try.prog.info? 21 = some i := Option.isSome_iff_exists.1 (by kernel_rfl)
theorem info26 : ∃ i, Try.prog.info? 26 = some i := Option.isSome_iff_exists.1 (by kernel_rfl)

theorem eq_arr25 (w : World) (a b c d : Int) : (Op.equalIn 9999 25 (.agg #[.int .i32 a, .int .i32 b, .int .i32 c, .int .i32 d]) (.agg #[.int .i32 a, .int .i32 b, .int .i32 c, .int .i32 d])).run Try.prog w = .ok true w := by
  obtain ⟨i, hi⟩ := info21
  have c21 : Try.prog.cellsOf 21 = 1 := by kernel_rfl
  rw [run_equalIn_array w 9998 _ _ Try.underlying25 hi, c21]
  simp [go_sem, Op.eqItems, List.range, List.range.loop, Try.underlying21]

set_option maxHeartbeats 1000000 in
set_option maxRecDepth 100000 in
theorem eq_arr28 (w : World) (a b c d e f g h i j k l m n o p : Int) : (Op.equalIn 9999 28 (.agg #[.int .u64 a, .int .u64 b, .int .u64 c, .int .u64 d, .int .u64 e, .int .u64 f, .int .u64 g, .int .u64 h, .int .u64 i, .int .u64 j, .int .u64 k, .int .u64 l, .int .u64 m, .int .u64 n, .int .u64 o, .int .u64 p])
    (.agg #[.int .u64 a, .int .u64 b, .int .u64 c, .int .u64 d, .int .u64 e, .int .u64 f, .int .u64 g, .int .u64 h, .int .u64 i, .int .u64 j, .int .u64 k, .int .u64 l, .int .u64 m, .int .u64 n, .int .u64 o, .int .u64 p])).run Try.prog w = .ok true w := by
  obtain ⟨ii, hi⟩ := info26
  have c26 : Try.prog.cellsOf 26 = 1 := by kernel_rfl
  rw [run_equalIn_array w 9998 _ _ Try.underlying28 hi, c26]
  simp [go_sem, Op.eqItems, List.range, List.range.loop, Try.underlying26]

set_option maxHeartbeats 1000000 in
set_option maxRecDepth 100000 in
theorem eq_tk_same (t : Tk) (w : World) : (binOp .eql 30 (tkV t) (tkV t)).run Try.prog w = .ok (.bool true) w := by
  unfold tkV
  rw [run_eql_struct, run_equalIn_agg w 9999 30 _ _ (by kernel_rfl) (by kernel_rfl)]
  have hf : (Try.prog.fieldsOf 30).toList = (match Try.prog.underlying 30 with | some (.struct fs) => fs.toList | _ => []) := by kernel_rfl
  rw [hf, Try.underlying30]
  simp [go_sem, Op.eqFields, tkArr, tkKind, Try.underlying25, Try.underlying28, Try.underlying3, Try.underlying21, Try.underlying26, eq_arr25, eq_arr28]
end Go.Proofs.Ytedhhohnbekelaa
