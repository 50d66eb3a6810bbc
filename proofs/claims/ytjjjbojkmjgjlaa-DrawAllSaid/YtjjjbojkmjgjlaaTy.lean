/- The types of the program as the executor reads them, and that they agree with the program (laid by ty.py). -/
import Derived.Test.YtjjjbojkmjgjlaaProg
import Derived.Test.YtjjjbojkmjgjlaaExec
namespace Go.Proofs.Ytjjjbojkmjgjlaa
open Go Go.Eng
set_option maxRecDepth 100000
def tyc0 : List TI := [
  ⟨.other, 0, false, [], [], 0, 0, false⟩,
  ⟨.fn, 1, true, [.nilFunc], [], 0, 8, false⟩,
  ⟨.int .i64, 1, true, [.int .i64 0], [], 0, 8, false⟩,
  ⟨.int .i64, 1, true, [.int .i64 0], [], 0, 8, false⟩,
  ⟨.bool, 1, true, [.bool false], [], 0, 1, false⟩,
  ⟨.int .u8, 1, true, [.int .u8 0], [], 0, 1, false⟩,
  ⟨.int .u8, 1, true, [.int .u8 0], [], 0, 1, false⟩,
  ⟨.struct, 4, true, [.int .i64 0, .int .i64 0, .bool false, .int .u8 0], [⟨0, 1, false, 2, true, true⟩, ⟨1, 1, false, 3, true, true⟩, ⟨2, 1, false, 4, true, true⟩, ⟨3, 1, false, 6, true, true⟩], 0, 24, true⟩,
  ⟨.struct, 4, true, [.int .i64 0, .int .i64 0, .bool false, .int .u8 0], [⟨0, 1, false, 2, true, true⟩, ⟨1, 1, false, 3, true, true⟩, ⟨2, 1, false, 4, true, true⟩, ⟨3, 1, false, 6, true, true⟩], 0, 24, true⟩,
  ⟨.str, 1, true, [.string ByteArray.empty], [], 0, 16, false⟩,
  ⟨.str, 1, true, [.string ByteArray.empty], [], 0, 16, false⟩,
  ⟨.str, 1, true, [.string ByteArray.empty], [], 0, 16, false⟩,
  ⟨.int .u64, 1, true, [.int .u64 0], [], 0, 8, false⟩,
  ⟨.struct, 2, true, [.string ByteArray.empty, .int .u64 0], [⟨0, 1, false, 9, true, true⟩, ⟨1, 1, false, 12, true, true⟩], 0, 24, false⟩,
  ⟨.struct, 2, true, [.string ByteArray.empty, .int .u64 0], [⟨0, 1, false, 9, true, true⟩, ⟨1, 1, false, 12, true, true⟩], 0, 24, false⟩,
  ⟨.ptr, 1, true, [.pointer none], [], 58, 8, false⟩
  ]
def tyc1 : List TI := [
  ⟨.ptr, 1, true, [.pointer none], [], 61, 8, false⟩,
  ⟨.ptr, 1, true, [.pointer none], [], 71, 8, false⟩,
  ⟨.struct, 1, true, [.pointer none], [⟨0, 1, false, 17, true, true⟩], 0, 8, false⟩,
  ⟨.struct, 1, true, [.pointer none], [⟨0, 1, false, 17, true, true⟩], 0, 8, false⟩,
  ⟨.iface, 1, true, [.nilIface], [], 0, 16, false⟩,
  ⟨.int .i32, 1, true, [.int .i32 0], [], 0, 4, false⟩,
  ⟨.fn, 1, true, [.nilFunc], [], 0, 8, false⟩,
  ⟨.fn, 1, true, [.nilFunc], [], 0, 8, false⟩,
  ⟨.struct, 3, true, [.int .i64 0, .int .i64 0, .int .i64 0], [⟨0, 1, false, 3, true, true⟩, ⟨1, 1, false, 3, true, true⟩, ⟨2, 1, false, 3, true, true⟩], 0, 24, true⟩,
  ⟨.struct, 3, true, [.int .i64 0, .int .i64 0, .int .i64 0], [⟨0, 1, false, 3, true, true⟩, ⟨1, 1, false, 3, true, true⟩, ⟨2, 1, false, 3, true, true⟩], 0, 24, true⟩,
  ⟨.other, 0, false, [], [], 0, 0, false⟩,
  ⟨.fn, 1, true, [.nilFunc], [], 0, 8, false⟩,
  ⟨.fn, 1, true, [.nilFunc], [], 0, 8, false⟩,
  ⟨.fn, 1, true, [.nilFunc], [], 0, 8, false⟩,
  ⟨.fn, 1, true, [.nilFunc], [], 0, 8, false⟩,
  ⟨.fn, 1, true, [.nilFunc], [], 0, 8, false⟩
  ]
def tyc2 : List TI := [
  ⟨.slice, 1, true, [.slice none 0 0], [], 3, 24, false⟩,
  ⟨.fn, 1, true, [.nilFunc], [], 0, 8, false⟩,
  ⟨.fn, 1, true, [.nilFunc], [], 0, 8, false⟩,
  ⟨.slice, 1, true, [.slice none 0 0], [], 41, 24, false⟩,
  ⟨.ptr, 1, true, [.pointer none], [], 38, 8, false⟩,
  ⟨.struct, 2, true, [.slice none 0 0, .int .i64 0], [⟨0, 1, false, 32, true, true⟩, ⟨1, 1, false, 3, true, true⟩], 0, 32, true⟩,
  ⟨.struct, 2, true, [.slice none 0 0, .int .i64 0], [⟨0, 1, false, 32, true, true⟩, ⟨1, 1, false, 3, true, true⟩], 0, 32, true⟩,
  ⟨.fn, 1, true, [.nilFunc], [], 0, 8, false⟩,
  ⟨.struct, 5, true, [.int .i64 0, .int .i64 0, .string ByteArray.empty, .bool false, .string ByteArray.empty], [⟨0, 1, false, 3, true, true⟩, ⟨1, 1, false, 3, true, true⟩, ⟨2, 1, false, 9, true, true⟩, ⟨3, 1, false, 4, true, true⟩, ⟨4, 1, false, 9, true, true⟩], 0, 56, true⟩,
  ⟨.struct, 5, true, [.int .i64 0, .int .i64 0, .string ByteArray.empty, .bool false, .string ByteArray.empty], [⟨0, 1, false, 3, true, true⟩, ⟨1, 1, false, 3, true, true⟩, ⟨2, 1, false, 9, true, true⟩, ⟨3, 1, false, 4, true, true⟩, ⟨4, 1, false, 9, true, true⟩], 0, 56, true⟩,
  ⟨.other, 0, false, [], [], 0, 0, false⟩,
  ⟨.fn, 1, true, [.nilFunc], [], 0, 8, false⟩,
  ⟨.fn, 1, true, [.nilFunc], [], 0, 8, false⟩,
  ⟨.fn, 1, true, [.nilFunc], [], 0, 8, false⟩,
  ⟨.fn, 1, true, [.nilFunc], [], 0, 8, false⟩,
  ⟨.fn, 1, true, [.nilFunc], [], 0, 8, false⟩
  ]
def tyc3 : List TI := [
  ⟨.other, 0, false, [], [], 0, 0, false⟩,
  ⟨.fn, 1, true, [.nilFunc], [], 0, 8, false⟩,
  ⟨.fn, 1, true, [.nilFunc], [], 0, 8, false⟩,
  ⟨.fn, 1, true, [.nilFunc], [], 0, 8, false⟩,
  ⟨.fn, 1, true, [.nilFunc], [], 0, 8, false⟩,
  ⟨.fn, 1, true, [.nilFunc], [], 0, 8, false⟩,
  ⟨.fn, 1, true, [.nilFunc], [], 0, 8, false⟩,
  ⟨.slice, 1, true, [.slice none 0 0], [], 9, 24, false⟩,
  ⟨.fn, 1, true, [.nilFunc], [], 0, 8, false⟩,
  ⟨.struct, 4, true, [.pointer none, .pointer none, .pointer none, .string ByteArray.empty], [⟨0, 1, false, 17, true, true⟩, ⟨1, 1, false, 17, true, true⟩, ⟨2, 1, false, 17, true, true⟩, ⟨3, 1, false, 9, true, true⟩], 0, 40, false⟩,
  ⟨.struct, 4, true, [.pointer none, .pointer none, .pointer none, .string ByteArray.empty], [⟨0, 1, false, 17, true, true⟩, ⟨1, 1, false, 17, true, true⟩, ⟨2, 1, false, 17, true, true⟩, ⟨3, 1, false, 9, true, true⟩], 0, 40, false⟩,
  ⟨.other, 0, false, [], [], 0, 0, false⟩,
  ⟨.struct, 0, true, [], [⟨0, 0, true, 59, false, true⟩], 0, 0, false⟩,
  ⟨.struct, 0, true, [], [⟨0, 0, true, 59, false, true⟩], 0, 0, false⟩,
  ⟨.fn, 1, true, [.nilFunc], [], 0, 8, false⟩,
  ⟨.int .u32, 1, true, [.int .u32 0], [], 0, 4, false⟩
  ]
def tyc4 : List TI := [
  ⟨.int .u8, 1, true, [.int .u8 0], [], 0, 1, false⟩,
  ⟨.int .u8, 1, true, [.int .u8 0], [], 0, 1, false⟩,
  ⟨.fn, 1, true, [.nilFunc], [], 0, 8, false⟩,
  ⟨.ptr, 1, true, [.pointer none], [], 5, 8, false⟩,
  ⟨.int .i32, 1, true, [.int .i32 0], [], 0, 4, false⟩,
  ⟨.int .i32, 1, true, [.int .i32 0], [], 0, 4, false⟩,
  ⟨.struct, 11, true, [.int .u64 0, .int .u64 0, .int .u32 0, .int .u8 0, .int .u8 0, .int .u8 0, .int .u8 0, .nilFunc, .pointer none, .int .i32 0, .int .i32 0], [⟨0, 1, false, 12, true, true⟩, ⟨1, 1, false, 12, true, true⟩, ⟨2, 1, false, 63, true, true⟩, ⟨3, 1, false, 64, true, true⟩, ⟨4, 1, false, 5, true, true⟩, ⟨5, 1, false, 5, true, true⟩, ⟨6, 1, false, 65, true, true⟩, ⟨7, 1, false, 66, true, true⟩, ⟨8, 1, false, 67, true, true⟩, ⟨9, 1, false, 68, true, true⟩, ⟨10, 1, false, 69, true, true⟩], 0, 48, false⟩,
  ⟨.struct, 11, true, [.int .u64 0, .int .u64 0, .int .u32 0, .int .u8 0, .int .u8 0, .int .u8 0, .int .u8 0, .nilFunc, .pointer none, .int .i32 0, .int .i32 0], [⟨0, 1, false, 12, true, true⟩, ⟨1, 1, false, 12, true, true⟩, ⟨2, 1, false, 63, true, true⟩, ⟨3, 1, false, 64, true, true⟩, ⟨4, 1, false, 5, true, true⟩, ⟨5, 1, false, 5, true, true⟩, ⟨6, 1, false, 65, true, true⟩, ⟨7, 1, false, 66, true, true⟩, ⟨8, 1, false, 67, true, true⟩, ⟨9, 1, false, 68, true, true⟩, ⟨10, 1, false, 69, true, true⟩], 0, 48, false⟩,
  ⟨.other, 0, false, [], [], 0, 0, false⟩
  ]
def tys : List (List TI) := [tyc0, tyc1, tyc2, tyc3, tyc4]
def ty (t : Nat) : TI := ((tys.getD (t / 16) []).getD (t % 16) TI.bad)
theorem ty_all : (List.range 73).map ty = (List.range 73).map (tiOf Try.prog) := by kernel_rfl
theorem ty_size : Try.prog.types.size = 73 := by kernel_rfl
theorem ty_ok (t : Nat) : ty t = tiOf Try.prog t := by
  by_cases h : t < 73
  · have := congrArg (fun l => l[t]?) ty_all
    simpa [h] using this
  · have h2 : tiOf Try.prog t = TI.bad := by
      have := ty_size
      have h1 : Nat.blt t Try.prog.types.size = false := by
        rw [ty_size]
        cases hb : Nat.blt t 73 with
        | false => rfl
        | true => exact absurd (Nat.blt_eq.mp hb) h
      unfold tiOf
      rw [h1]
      rfl
    rw [h2]
    unfold ty
    by_cases h3 : t / 16 < 5
    · have h4 : t / 16 = 4 := by omega
      rw [h4]
      have h5 : tys.getD 4 [] = tyc4 := rfl
      have h6 : tyc4.length = 9 := rfl
      rw [h5, List.getD_eq_getElem?_getD, List.getElem?_eq_none (by omega)]
      rfl
    · have h6 : tys.length = 5 := rfl
      rw [List.getD_eq_getElem?_getD (l := tys), List.getElem?_eq_none (by omega)]
      rfl
end Go.Proofs.Ytjjjbojkmjgjlaa
