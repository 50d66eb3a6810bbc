/- The types of the program as the executor reads them, and that they agree with the program (laid by ty.py). -/
import Derived.Test.YtmnmhehddbemkaaProg
import Derived.Test.YtmnmhehddbemkaaExec
namespace Go.Proofs.Ytmnmhehddbemkaa
open Go Go.Eng
set_option maxRecDepth 100000
def tyc0 : List TI := [
  ⟨.other, 0, false, [], [], 0, 0, false⟩,
  ⟨.fn, 1, true, [.nilFunc], [], 0, 8, false⟩,
  ⟨.int .i64, 1, true, [.int .i64 0], [], 0, 8, false⟩,
  ⟨.int .i64, 1, true, [.int .i64 0], [], 0, 8, false⟩,
  ⟨.bool, 1, true, [.bool false], [], 0, 1, false⟩,
  ⟨.int .u8, 1, true, [.int .u8 0], [], 0, 1, false⟩,
  ⟨.int .u8, 1, true, [.int .u8 0], [], 0, 1, false⟩,
  ⟨.struct, 4, true, [.int .i64 0, .int .i64 0, .bool false, .int .u8 0], [⟨0, 1, false, 2, true, true⟩, ⟨1, 1, false, 3, true, true⟩, ⟨2, 1, false, 4, true, true⟩, ⟨3, 1, false, 6, true, true⟩], 0, 24, true⟩,
  ⟨.struct, 4, true, [.int .i64 0, .int .i64 0, .bool false, .int .u8 0], [⟨0, 1, false, 2, true, true⟩, ⟨1, 1, false, 3, true, true⟩, ⟨2, 1, false, 4, true, true⟩, ⟨3, 1, false, 6, true, true⟩], 0, 24, true⟩,
  ⟨.str, 1, true, [.string ByteArray.empty], [], 0, 16, false⟩,
  ⟨.str, 1, true, [.string ByteArray.empty], [], 0, 16, false⟩,
  ⟨.str, 1, true, [.string ByteArray.empty], [], 0, 16, false⟩,
  ⟨.int .u64, 1, true, [.int .u64 0], [], 0, 8, false⟩,
  ⟨.struct, 2, true, [.string ByteArray.empty, .int .u64 0], [⟨0, 1, false, 9, true, true⟩, ⟨1, 1, false, 12, true, true⟩], 0, 24, false⟩,
  ⟨.struct, 2, true, [.string ByteArray.empty, .int .u64 0], [⟨0, 1, false, 9, true, true⟩, ⟨1, 1, false, 12, true, true⟩], 0, 24, false⟩,
  ⟨.ptr, 1, true, [.pointer none], [], 164, 8, false⟩
]
def tyc1 : List TI := [
  ⟨.ptr, 1, true, [.pointer none], [], 167, 8, false⟩,
  ⟨.ptr, 1, true, [.pointer none], [], 176, 8, false⟩,
  ⟨.struct, 1, true, [.pointer none], [⟨0, 1, false, 17, true, true⟩], 0, 8, false⟩,
  ⟨.struct, 1, true, [.pointer none], [⟨0, 1, false, 17, true, true⟩], 0, 8, false⟩,
  ⟨.iface, 1, true, [.nilIface], [], 0, 16, false⟩,
  ⟨.int .i32, 1, true, [.int .i32 0], [], 0, 4, false⟩,
  ⟨.slice, 1, true, [.slice none 0 0], [], 3, 24, false⟩,
  ⟨.fn, 1, true, [.nilFunc], [], 0, 8, false⟩,
  ⟨.slice, 1, true, [.slice none 0 0], [], 33, 24, false⟩,
  ⟨.fn, 1, true, [.nilFunc], [], 0, 8, false⟩,
  ⟨.slice, 1, true, [.slice none 0 0], [], 37, 24, false⟩,
  ⟨.fn, 1, true, [.nilFunc], [], 0, 8, false⟩,
  ⟨.int .i64, 1, true, [.int .i64 0], [], 0, 8, false⟩,
  ⟨.other, 0, false, [], [], 0, 0, false⟩,
  ⟨.fn, 1, true, [.nilFunc], [], 0, 8, false⟩,
  ⟨.fn, 1, true, [.nilFunc], [], 0, 8, false⟩
]
def tyc2 : List TI := [
  ⟨.struct, 4, true, [.int .i64 0, .int .i64 0, .string ByteArray.empty, .slice none 0 0], [⟨0, 1, false, 3, true, true⟩, ⟨1, 1, false, 3, true, true⟩, ⟨2, 1, false, 9, true, true⟩, ⟨3, 1, false, 24, true, true⟩], 0, 56, true⟩,
  ⟨.struct, 4, true, [.int .i64 0, .int .i64 0, .string ByteArray.empty, .slice none 0 0], [⟨0, 1, false, 3, true, true⟩, ⟨1, 1, false, 3, true, true⟩, ⟨2, 1, false, 9, true, true⟩, ⟨3, 1, false, 24, true, true⟩], 0, 56, true⟩,
  ⟨.fn, 1, true, [.nilFunc], [], 0, 8, false⟩,
  ⟨.fn, 1, true, [.nilFunc], [], 0, 8, false⟩,
  ⟨.struct, 4, true, [.int .i64 0, .int .i64 0, .int .i64 0, .string ByteArray.empty], [⟨0, 1, false, 3, true, true⟩, ⟨1, 1, false, 3, true, true⟩, ⟨2, 1, false, 3, true, true⟩, ⟨3, 1, false, 9, true, true⟩], 0, 40, true⟩,
  ⟨.struct, 4, true, [.int .i64 0, .int .i64 0, .int .i64 0, .string ByteArray.empty], [⟨0, 1, false, 3, true, true⟩, ⟨1, 1, false, 3, true, true⟩, ⟨2, 1, false, 3, true, true⟩, ⟨3, 1, false, 9, true, true⟩], 0, 40, true⟩,
  ⟨.fn, 1, true, [.nilFunc], [], 0, 8, false⟩,
  ⟨.slice, 1, true, [.slice none 0 0], [], 26, 24, false⟩,
  ⟨.fn, 1, true, [.nilFunc], [], 0, 8, false⟩,
  ⟨.fn, 1, true, [.nilFunc], [], 0, 8, false⟩,
  ⟨.fn, 1, true, [.nilFunc], [], 0, 8, false⟩,
  ⟨.fn, 1, true, [.nilFunc], [], 0, 8, false⟩,
  ⟨.other, 0, false, [], [], 0, 0, false⟩,
  ⟨.fn, 1, true, [.nilFunc], [], 0, 8, false⟩,
  ⟨.fn, 1, true, [.nilFunc], [], 0, 8, false⟩,
  ⟨.fn, 1, true, [.nilFunc], [], 0, 8, false⟩
]
def tyc3 : List TI := [
  ⟨.fn, 1, true, [.nilFunc], [], 0, 8, false⟩,
  ⟨.fn, 1, true, [.nilFunc], [], 0, 8, false⟩,
  ⟨.fn, 1, true, [.nilFunc], [], 0, 8, false⟩,
  ⟨.fn, 1, true, [.nilFunc], [], 0, 8, false⟩,
  ⟨.fn, 1, true, [.nilFunc], [], 0, 8, false⟩,
  ⟨.fn, 1, true, [.nilFunc], [], 0, 8, false⟩,
  ⟨.fn, 1, true, [.nilFunc], [], 0, 8, false⟩,
  ⟨.fn, 1, true, [.nilFunc], [], 0, 8, false⟩,
  ⟨.fn, 1, true, [.nilFunc], [], 0, 8, false⟩,
  ⟨.fn, 1, true, [.nilFunc], [], 0, 8, false⟩,
  ⟨.fn, 1, true, [.nilFunc], [], 0, 8, false⟩,
  ⟨.slice, 1, true, [.slice none 0 0], [], 5, 24, false⟩,
  ⟨.ptr, 1, true, [.pointer none], [], 62, 8, false⟩,
  ⟨.struct, 2, true, [.slice none 0 0, .int .i64 0], [⟨0, 1, false, 22, true, true⟩, ⟨1, 1, false, 3, true, true⟩], 0, 32, true⟩,
  ⟨.struct, 2, true, [.slice none 0 0, .int .i64 0], [⟨0, 1, false, 22, true, true⟩, ⟨1, 1, false, 3, true, true⟩], 0, 32, true⟩,
  ⟨.fn, 1, true, [.nilFunc], [], 0, 8, false⟩
]
def tyc4 : List TI := [
  ⟨.fn, 1, true, [.nilFunc], [], 0, 8, false⟩,
  ⟨.slice, 1, true, [.slice none 0 0], [], 9, 24, false⟩,
  ⟨.iface, 1, true, [.nilIface], [], 0, 16, false⟩,
  ⟨.iface, 1, true, [.nilIface], [], 0, 16, false⟩,
  ⟨.other, 0, false, [], [], 0, 0, false⟩,
  ⟨.fn, 1, true, [.nilFunc], [], 0, 8, false⟩,
  ⟨.other, 0, false, [], [], 0, 0, false⟩,
  ⟨.ptr, 1, true, [.pointer none], [], 73, 8, false⟩,
  ⟨.struct, 2, true, [.slice none 0 0, .slice none 0 0], [⟨0, 1, false, 24, true, true⟩, ⟨1, 1, false, 24, true, true⟩], 0, 48, true⟩,
  ⟨.struct, 2, true, [.slice none 0 0, .slice none 0 0], [⟨0, 1, false, 24, true, true⟩, ⟨1, 1, false, 24, true, true⟩], 0, 48, true⟩,
  ⟨.other, 0, false, [], [], 0, 0, false⟩,
  ⟨.fn, 1, true, [.nilFunc], [], 0, 8, false⟩,
  ⟨.ptr, 1, true, [.pointer none], [], 80, 8, false⟩,
  ⟨.map, 1, true, [.map none], [], 83, 8, false⟩,
  ⟨.map, 1, true, [.map none], [], 3, 8, false⟩,
  ⟨.struct, 3, true, [.map none, .map none, .slice none 0 0], [⟨0, 1, false, 77, true, true⟩, ⟨1, 1, false, 78, true, true⟩, ⟨2, 1, false, 26, true, true⟩], 0, 40, true⟩
]
def tyc5 : List TI := [
  ⟨.struct, 3, true, [.map none, .map none, .slice none 0 0], [⟨0, 1, false, 77, true, true⟩, ⟨1, 1, false, 78, true, true⟩, ⟨2, 1, false, 26, true, true⟩], 0, 40, true⟩,
  ⟨.fn, 1, true, [.nilFunc], [], 0, 8, false⟩,
  ⟨.struct, 8, true, [.int .i64 0, .int .i64 0, .int .i64 0, .string ByteArray.empty, .int .i64 0, .int .i64 0, .string ByteArray.empty, .slice none 0 0], [⟨0, 4, true, 37, true, true⟩, ⟨4, 4, true, 33, true, true⟩], 0, 96, true⟩,
  ⟨.struct, 8, true, [.int .i64 0, .int .i64 0, .int .i64 0, .string ByteArray.empty, .int .i64 0, .int .i64 0, .string ByteArray.empty, .slice none 0 0], [⟨0, 4, true, 37, true, true⟩, ⟨4, 4, true, 33, true, true⟩], 0, 96, true⟩,
  ⟨.map, 1, true, [.map none], [], 33, 8, false⟩,
  ⟨.map, 1, true, [.map none], [], 33, 8, false⟩,
  ⟨.fn, 1, true, [.nilFunc], [], 0, 8, false⟩,
  ⟨.fn, 1, true, [.nilFunc], [], 0, 8, false⟩,
  ⟨.other, 0, false, [], [], 0, 0, false⟩,
  ⟨.fn, 1, true, [.nilFunc], [], 0, 8, false⟩,
  ⟨.fn, 1, true, [.nilFunc], [], 0, 8, false⟩,
  ⟨.fn, 1, true, [.nilFunc], [], 0, 8, false⟩,
  ⟨.fn, 1, true, [.nilFunc], [], 0, 8, false⟩,
  ⟨.fn, 1, true, [.nilFunc], [], 0, 8, false⟩,
  ⟨.fn, 1, true, [.nilFunc], [], 0, 8, false⟩,
  ⟨.fn, 1, true, [.nilFunc], [], 0, 8, false⟩
]
def tyc6 : List TI := [
  ⟨.fn, 1, true, [.nilFunc], [], 0, 8, false⟩,
  ⟨.fn, 1, true, [.nilFunc], [], 0, 8, false⟩,
  ⟨.fn, 1, true, [.nilFunc], [], 0, 8, false⟩,
  ⟨.iface, 1, true, [.nilIface], [], 0, 16, false⟩,
  ⟨.iface, 1, true, [.nilIface], [], 0, 16, false⟩,
  ⟨.fn, 1, true, [.nilFunc], [], 0, 8, false⟩,
  ⟨.fn, 1, true, [.nilFunc], [], 0, 8, false⟩,
  ⟨.other, 0, false, [], [], 0, 0, false⟩,
  ⟨.fn, 1, true, [.nilFunc], [], 0, 8, false⟩,
  ⟨.fn, 1, true, [.nilFunc], [], 0, 8, false⟩,
  ⟨.other, 0, false, [], [], 0, 0, false⟩,
  ⟨.struct, 3, true, [.int .i64 0, .int .i64 0, .int .i64 0], [⟨0, 1, false, 3, true, true⟩, ⟨1, 1, false, 3, true, true⟩, ⟨2, 1, false, 3, true, true⟩], 0, 24, true⟩,
  ⟨.struct, 3, true, [.int .i64 0, .int .i64 0, .int .i64 0], [⟨0, 1, false, 3, true, true⟩, ⟨1, 1, false, 3, true, true⟩, ⟨2, 1, false, 3, true, true⟩], 0, 24, true⟩,
  ⟨.other, 0, false, [], [], 0, 0, false⟩,
  ⟨.other, 0, false, [], [], 0, 0, false⟩,
  ⟨.fn, 1, true, [.nilFunc], [], 0, 8, false⟩
]
def tyc7 : List TI := [
  ⟨.fn, 1, true, [.nilFunc], [], 0, 8, false⟩,
  ⟨.fn, 1, true, [.nilFunc], [], 0, 8, false⟩,
  ⟨.fn, 1, true, [.nilFunc], [], 0, 8, false⟩,
  ⟨.fn, 1, true, [.nilFunc], [], 0, 8, false⟩,
  ⟨.fn, 1, true, [.nilFunc], [], 0, 8, false⟩,
  ⟨.fn, 1, true, [.nilFunc], [], 0, 8, false⟩,
  ⟨.int .u64, 1, true, [.int .u64 0], [], 0, 8, false⟩,
  ⟨.fn, 1, true, [.nilFunc], [], 0, 8, false⟩,
  ⟨.fn, 1, true, [.nilFunc], [], 0, 8, false⟩,
  ⟨.fn, 1, true, [.nilFunc], [], 0, 8, false⟩,
  ⟨.fn, 1, true, [.nilFunc], [], 0, 8, false⟩,
  ⟨.fn, 1, true, [.nilFunc], [], 0, 8, false⟩,
  ⟨.fn, 1, true, [.nilFunc], [], 0, 8, false⟩,
  ⟨.int .i64, 1, true, [.int .i64 0], [], 0, 8, false⟩,
  ⟨.str, 1, true, [.string ByteArray.empty], [], 0, 16, false⟩,
  ⟨.struct, 2, true, [.int .i64 0, .int .i64 0], [⟨0, 1, false, 3, true, true⟩, ⟨1, 1, false, 3, true, true⟩], 0, 16, true⟩
]
def tyc8 : List TI := [
  ⟨.struct, 2, true, [.int .i64 0, .int .i64 0], [⟨0, 1, false, 3, true, true⟩, ⟨1, 1, false, 3, true, true⟩], 0, 16, true⟩,
  ⟨.struct, 3, true, [.int .i64 0, .int .i64 0, .int .i64 0], [⟨0, 1, false, 3, true, true⟩, ⟨1, 1, false, 3, true, true⟩, ⟨2, 1, false, 3, true, true⟩], 0, 24, true⟩,
  ⟨.struct, 3, true, [.int .i64 0, .int .i64 0, .int .i64 0], [⟨0, 1, false, 3, true, true⟩, ⟨1, 1, false, 3, true, true⟩, ⟨2, 1, false, 3, true, true⟩], 0, 24, true⟩,
  ⟨.map, 1, true, [.map none], [], 3, 8, false⟩,
  ⟨.fn, 1, true, [.nilFunc], [], 0, 8, false⟩,
  ⟨.fn, 1, true, [.nilFunc], [], 0, 8, false⟩,
  ⟨.int .i64, 1, true, [.int .i64 0], [], 0, 8, false⟩,
  ⟨.other, 0, false, [], [], 0, 0, false⟩,
  ⟨.fn, 1, true, [.nilFunc], [], 0, 8, false⟩,
  ⟨.fn, 1, true, [.nilFunc], [], 0, 8, false⟩,
  ⟨.fn, 1, true, [.nilFunc], [], 0, 8, false⟩,
  ⟨.fn, 1, true, [.nilFunc], [], 0, 8, false⟩,
  ⟨.fn, 1, true, [.nilFunc], [], 0, 8, false⟩,
  ⟨.int .u32, 1, true, [.int .u32 0], [], 0, 4, false⟩,
  ⟨.fn, 1, true, [.nilFunc], [], 0, 8, false⟩,
  ⟨.int .u64, 1, true, [.int .u64 0], [], 0, 8, false⟩
]
def tyc9 : List TI := [
  ⟨.fn, 1, true, [.nilFunc], [], 0, 8, false⟩,
  ⟨.fn, 1, true, [.nilFunc], [], 0, 8, false⟩,
  ⟨.fn, 1, true, [.nilFunc], [], 0, 8, false⟩,
  ⟨.fn, 1, true, [.nilFunc], [], 0, 8, false⟩,
  ⟨.fn, 1, true, [.nilFunc], [], 0, 8, false⟩,
  ⟨.fn, 1, true, [.nilFunc], [], 0, 8, false⟩,
  ⟨.int .u64, 1, true, [.int .u64 0], [], 0, 8, false⟩,
  ⟨.fn, 1, true, [.nilFunc], [], 0, 8, false⟩,
  ⟨.fn, 1, true, [.nilFunc], [], 0, 8, false⟩,
  ⟨.fn, 1, true, [.nilFunc], [], 0, 8, false⟩,
  ⟨.ptr, 1, true, [.pointer none], [], 3, 8, false⟩,
  ⟨.fn, 1, true, [.nilFunc], [], 0, 8, false⟩,
  ⟨.fn, 1, true, [.nilFunc], [], 0, 8, false⟩,
  ⟨.fn, 1, true, [.nilFunc], [], 0, 8, false⟩,
  ⟨.ptr, 1, true, [.pointer none], [], 150, 8, false⟩,
  ⟨.other, 0, false, [], [], 0, 0, false⟩
]
def tyc10 : List TI := [
  ⟨.fn, 1, true, [.nilFunc], [], 0, 8, false⟩,
  ⟨.fn, 1, true, [.nilFunc], [], 0, 8, false⟩,
  ⟨.fn, 1, true, [.nilFunc], [], 0, 8, false⟩,
  ⟨.struct, 4, true, [.pointer none, .pointer none, .pointer none, .string ByteArray.empty], [⟨0, 1, false, 17, true, true⟩, ⟨1, 1, false, 17, true, true⟩, ⟨2, 1, false, 17, true, true⟩, ⟨3, 1, false, 9, true, true⟩], 0, 40, false⟩,
  ⟨.struct, 4, true, [.pointer none, .pointer none, .pointer none, .string ByteArray.empty], [⟨0, 1, false, 17, true, true⟩, ⟨1, 1, false, 17, true, true⟩, ⟨2, 1, false, 17, true, true⟩, ⟨3, 1, false, 9, true, true⟩], 0, 40, false⟩,
  ⟨.other, 0, false, [], [], 0, 0, false⟩,
  ⟨.struct, 0, true, [], [⟨0, 0, true, 165, false, true⟩], 0, 0, false⟩,
  ⟨.struct, 0, true, [], [⟨0, 0, true, 165, false, true⟩], 0, 0, false⟩,
  ⟨.fn, 1, true, [.nilFunc], [], 0, 8, false⟩,
  ⟨.int .u8, 1, true, [.int .u8 0], [], 0, 1, false⟩,
  ⟨.int .u8, 1, true, [.int .u8 0], [], 0, 1, false⟩,
  ⟨.fn, 1, true, [.nilFunc], [], 0, 8, false⟩,
  ⟨.ptr, 1, true, [.pointer none], [], 5, 8, false⟩,
  ⟨.int .i32, 1, true, [.int .i32 0], [], 0, 4, false⟩,
  ⟨.int .i32, 1, true, [.int .i32 0], [], 0, 4, false⟩,
  ⟨.struct, 11, true, [.int .u64 0, .int .u64 0, .int .u32 0, .int .u8 0, .int .u8 0, .int .u8 0, .int .u8 0, .nilFunc, .pointer none, .int .i32 0, .int .i32 0], [⟨0, 1, false, 12, true, true⟩, ⟨1, 1, false, 12, true, true⟩, ⟨2, 1, false, 141, true, true⟩, ⟨3, 1, false, 169, true, true⟩, ⟨4, 1, false, 5, true, true⟩, ⟨5, 1, false, 5, true, true⟩, ⟨6, 1, false, 170, true, true⟩, ⟨7, 1, false, 171, true, true⟩, ⟨8, 1, false, 172, true, true⟩, ⟨9, 1, false, 173, true, true⟩, ⟨10, 1, false, 174, true, true⟩], 0, 48, false⟩
]
def tyc11 : List TI := [
  ⟨.struct, 11, true, [.int .u64 0, .int .u64 0, .int .u32 0, .int .u8 0, .int .u8 0, .int .u8 0, .int .u8 0, .nilFunc, .pointer none, .int .i32 0, .int .i32 0], [⟨0, 1, false, 12, true, true⟩, ⟨1, 1, false, 12, true, true⟩, ⟨2, 1, false, 141, true, true⟩, ⟨3, 1, false, 169, true, true⟩, ⟨4, 1, false, 5, true, true⟩, ⟨5, 1, false, 5, true, true⟩, ⟨6, 1, false, 170, true, true⟩, ⟨7, 1, false, 171, true, true⟩, ⟨8, 1, false, 172, true, true⟩, ⟨9, 1, false, 173, true, true⟩, ⟨10, 1, false, 174, true, true⟩], 0, 48, false⟩,
  ⟨.other, 0, false, [], [], 0, 0, false⟩
]
def tys : List (List TI) := [tyc0, tyc1, tyc2, tyc3, tyc4, tyc5, tyc6, tyc7, tyc8, tyc9, tyc10, tyc11]
def ty (t : Nat) : TI := ((tys.getD (t / 16) []).getD (t % 16) TI.bad)
theorem ty_all : (List.range 178).map ty = (List.range 178).map (tiOf Try.prog) := by kernel_rfl
theorem ty_size : Try.prog.types.size = 178 := by kernel_rfl
theorem ty_ok (t : Nat) : ty t = tiOf Try.prog t := by
  by_cases h : t < 178
  · have := congrArg (fun l => l[t]?) ty_all
    simpa [h] using this
  · have h2 : tiOf Try.prog t = TI.bad := by
      have := ty_size
      have h1 : Nat.blt t Try.prog.types.size = false := by
        rw [ty_size]
        cases hb : Nat.blt t 178 with
        | false => rfl
        | true => exact absurd (Nat.blt_eq.mp hb) h
      unfold tiOf
      rw [h1]
      rfl
    rw [h2]
    unfold ty
    by_cases h3 : t / 16 < 12
    · have h4 : t / 16 = 11 := by omega
      rw [h4]
      have h5 : tys.getD 11 [] = tyc11 := rfl
      have h6 : tyc11.length = 2 := rfl
      rw [h5, List.getD_eq_getElem?_getD, List.getElem?_eq_none (by omega)]
      rfl
    · have h6 : tys.length = 12 := rfl
      rw [List.getD_eq_getElem?_getD (l := tys), List.getElem?_eq_none (by omega)]
      rfl
end Go.Proofs.Ytmnmhehddbemkaa
