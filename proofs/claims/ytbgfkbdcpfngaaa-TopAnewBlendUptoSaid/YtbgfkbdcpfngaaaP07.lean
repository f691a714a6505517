/- Part 7 of 22 of the proof that the law TopAnewBlend returns true and leaves its argument as it read before, for every input that the bounded statement admits (what it reads is of bulk at most 1048576). -/
import Derived.Test.YtbgfkbdcpfngaaaProg
import Derived.KernelRfl
import Derived.Test.YtbgfkbdcpfngaaaP04
open Go Go.Proofs Go.Proofs.Ytbgfkbdcpfngaaa
set_option maxRecDepth 100000
namespace Go.Proofs.Ytbgfkbdcpfngaaa.B
theorem mixed : Try.prog.follows .mixedOrders = true := by kernel_rfl
theorem sz1 : szOf Try.prog 1 = some 1 := by kernel_rfl
theorem ag1 : aggB Try.prog 1 = some false := by kernel_rfl
theorem ze1 : zeroL Try.prog 1 = some [.nilFunc] := by kernel_rfl
theorem by1 : bytesOf' Try.prog 1 = 8 := by kernel_rfl
theorem sz2 : szOf Try.prog 2 = some 1 := by kernel_rfl
theorem ag2 : aggB Try.prog 2 = some false := by kernel_rfl
theorem ze2 : zeroL Try.prog 2 = some [.int .i64 0] := by kernel_rfl
theorem by2 : bytesOf' Try.prog 2 = 8 := by kernel_rfl
theorem sz3 : szOf Try.prog 3 = some 1 := by kernel_rfl
theorem ag3 : aggB Try.prog 3 = some false := by kernel_rfl
theorem ze3 : zeroL Try.prog 3 = some [.int .i64 0] := by kernel_rfl
theorem by3 : bytesOf' Try.prog 3 = 8 := by kernel_rfl
theorem sz4 : szOf Try.prog 4 = some 1 := by kernel_rfl
theorem ag4 : aggB Try.prog 4 = some false := by kernel_rfl
theorem ze4 : zeroL Try.prog 4 = some [.bool false] := by kernel_rfl
theorem by4 : bytesOf' Try.prog 4 = 1 := by kernel_rfl
theorem sz5 : szOf Try.prog 5 = some 1 := by kernel_rfl
theorem ag5 : aggB Try.prog 5 = some false := by kernel_rfl
theorem ze5 : zeroL Try.prog 5 = some [.int .u8 0] := by kernel_rfl
theorem by5 : bytesOf' Try.prog 5 = 1 := by kernel_rfl
theorem sz6 : szOf Try.prog 6 = some 1 := by kernel_rfl
theorem ag6 : aggB Try.prog 6 = some false := by kernel_rfl
theorem ze6 : zeroL Try.prog 6 = some [.int .u8 0] := by kernel_rfl
theorem by6 : bytesOf' Try.prog 6 = 1 := by kernel_rfl
theorem sz7 : szOf Try.prog 7 = some 4 := by kernel_rfl
theorem ag7 : aggB Try.prog 7 = some true := by kernel_rfl
theorem ze7 : zeroL Try.prog 7 = some [.int .i64 0, .int .i64 0, .bool false, .int .u8 0] := by kernel_rfl
theorem by7 : bytesOf' Try.prog 7 = 24 := by kernel_rfl
theorem fa7_0 (b o : Nat) : cfa Try.prog 7 0 (.pointer (some ⟨b, o, none⟩)) = some (.pointer (some ⟨b, o, none⟩)) := by kernel_rfl
theorem fz7_0 (b : Nat) : cfa Try.prog 7 0 (.pointer (some ⟨b, 0, none⟩)) = some (.pointer (some ⟨b, 0, none⟩)) := by kernel_rfl
theorem fa7_1 (b o : Nat) : cfa Try.prog 7 1 (.pointer (some ⟨b, o, none⟩)) = some (.pointer (some ⟨b, o + 1, none⟩)) := by kernel_rfl
theorem fz7_1 (b : Nat) : cfa Try.prog 7 1 (.pointer (some ⟨b, 0, none⟩)) = some (.pointer (some ⟨b, 1, none⟩)) := by kernel_rfl
theorem fa7_2 (b o : Nat) : cfa Try.prog 7 2 (.pointer (some ⟨b, o, none⟩)) = some (.pointer (some ⟨b, o + 2, none⟩)) := by kernel_rfl
theorem fz7_2 (b : Nat) : cfa Try.prog 7 2 (.pointer (some ⟨b, 0, none⟩)) = some (.pointer (some ⟨b, 2, none⟩)) := by kernel_rfl
theorem fa7_3 (b o : Nat) : cfa Try.prog 7 3 (.pointer (some ⟨b, o, none⟩)) = some (.pointer (some ⟨b, o + 3, none⟩)) := by kernel_rfl
theorem fz7_3 (b : Nat) : cfa Try.prog 7 3 (.pointer (some ⟨b, 0, none⟩)) = some (.pointer (some ⟨b, 3, none⟩)) := by kernel_rfl
theorem sz8 : szOf Try.prog 8 = some 4 := by kernel_rfl
theorem ag8 : aggB Try.prog 8 = some true := by kernel_rfl
theorem ze8 : zeroL Try.prog 8 = some [.int .i64 0, .int .i64 0, .bool false, .int .u8 0] := by kernel_rfl
theorem by8 : bytesOf' Try.prog 8 = 24 := by kernel_rfl
theorem fa8_0 (b o : Nat) : cfa Try.prog 8 0 (.pointer (some ⟨b, o, none⟩)) = some (.pointer (some ⟨b, o, none⟩)) := by kernel_rfl
theorem fz8_0 (b : Nat) : cfa Try.prog 8 0 (.pointer (some ⟨b, 0, none⟩)) = some (.pointer (some ⟨b, 0, none⟩)) := by kernel_rfl
theorem fa8_1 (b o : Nat) : cfa Try.prog 8 1 (.pointer (some ⟨b, o, none⟩)) = some (.pointer (some ⟨b, o + 1, none⟩)) := by kernel_rfl
theorem fz8_1 (b : Nat) : cfa Try.prog 8 1 (.pointer (some ⟨b, 0, none⟩)) = some (.pointer (some ⟨b, 1, none⟩)) := by kernel_rfl
theorem fa8_2 (b o : Nat) : cfa Try.prog 8 2 (.pointer (some ⟨b, o, none⟩)) = some (.pointer (some ⟨b, o + 2, none⟩)) := by kernel_rfl
theorem fz8_2 (b : Nat) : cfa Try.prog 8 2 (.pointer (some ⟨b, 0, none⟩)) = some (.pointer (some ⟨b, 2, none⟩)) := by kernel_rfl
theorem fa8_3 (b o : Nat) : cfa Try.prog 8 3 (.pointer (some ⟨b, o, none⟩)) = some (.pointer (some ⟨b, o + 3, none⟩)) := by kernel_rfl
theorem fz8_3 (b : Nat) : cfa Try.prog 8 3 (.pointer (some ⟨b, 0, none⟩)) = some (.pointer (some ⟨b, 3, none⟩)) := by kernel_rfl
theorem sz9 : szOf Try.prog 9 = some 1 := by kernel_rfl
theorem ag9 : aggB Try.prog 9 = some false := by kernel_rfl
theorem ze9 : zeroL Try.prog 9 = some [.string ⟨#[]⟩] := by kernel_rfl
theorem by9 : bytesOf' Try.prog 9 = 16 := by kernel_rfl
theorem sz10 : szOf Try.prog 10 = some 1 := by kernel_rfl
theorem ag10 : aggB Try.prog 10 = some false := by kernel_rfl
theorem ze10 : zeroL Try.prog 10 = some [.string ⟨#[]⟩] := by kernel_rfl
theorem by10 : bytesOf' Try.prog 10 = 16 := by kernel_rfl
theorem sz11 : szOf Try.prog 11 = some 1 := by kernel_rfl
theorem ag11 : aggB Try.prog 11 = some false := by kernel_rfl
theorem ze11 : zeroL Try.prog 11 = some [.string ⟨#[]⟩] := by kernel_rfl
theorem by11 : bytesOf' Try.prog 11 = 16 := by kernel_rfl
theorem sz12 : szOf Try.prog 12 = some 1 := by kernel_rfl
theorem ag12 : aggB Try.prog 12 = some false := by kernel_rfl
theorem ze12 : zeroL Try.prog 12 = some [.int .u64 0] := by kernel_rfl
theorem by12 : bytesOf' Try.prog 12 = 8 := by kernel_rfl
theorem sz13 : szOf Try.prog 13 = some 2 := by kernel_rfl
theorem ag13 : aggB Try.prog 13 = some true := by kernel_rfl
theorem ze13 : zeroL Try.prog 13 = some [.string ⟨#[]⟩, .int .u64 0] := by kernel_rfl
theorem by13 : bytesOf' Try.prog 13 = 24 := by kernel_rfl
theorem fa13_0 (b o : Nat) : cfa Try.prog 13 0 (.pointer (some ⟨b, o, none⟩)) = some (.pointer (some ⟨b, o, none⟩)) := by kernel_rfl
theorem fz13_0 (b : Nat) : cfa Try.prog 13 0 (.pointer (some ⟨b, 0, none⟩)) = some (.pointer (some ⟨b, 0, none⟩)) := by kernel_rfl
theorem fa13_1 (b o : Nat) : cfa Try.prog 13 1 (.pointer (some ⟨b, o, none⟩)) = some (.pointer (some ⟨b, o + 1, none⟩)) := by kernel_rfl
theorem fz13_1 (b : Nat) : cfa Try.prog 13 1 (.pointer (some ⟨b, 0, none⟩)) = some (.pointer (some ⟨b, 1, none⟩)) := by kernel_rfl
theorem sz14 : szOf Try.prog 14 = some 2 := by kernel_rfl
theorem ag14 : aggB Try.prog 14 = some true := by kernel_rfl
theorem ze14 : zeroL Try.prog 14 = some [.string ⟨#[]⟩, .int .u64 0] := by kernel_rfl
theorem by14 : bytesOf' Try.prog 14 = 24 := by kernel_rfl
theorem fa14_0 (b o : Nat) : cfa Try.prog 14 0 (.pointer (some ⟨b, o, none⟩)) = some (.pointer (some ⟨b, o, none⟩)) := by kernel_rfl
theorem fz14_0 (b : Nat) : cfa Try.prog 14 0 (.pointer (some ⟨b, 0, none⟩)) = some (.pointer (some ⟨b, 0, none⟩)) := by kernel_rfl
theorem fa14_1 (b o : Nat) : cfa Try.prog 14 1 (.pointer (some ⟨b, o, none⟩)) = some (.pointer (some ⟨b, o + 1, none⟩)) := by kernel_rfl
theorem fz14_1 (b : Nat) : cfa Try.prog 14 1 (.pointer (some ⟨b, 0, none⟩)) = some (.pointer (some ⟨b, 1, none⟩)) := by kernel_rfl
theorem sz15 : szOf Try.prog 15 = some 1 := by kernel_rfl
theorem ag15 : aggB Try.prog 15 = some false := by kernel_rfl
theorem ze15 : zeroL Try.prog 15 = some [.pointer none] := by kernel_rfl
theorem by15 : bytesOf' Try.prog 15 = 8 := by kernel_rfl
theorem sz16 : szOf Try.prog 16 = some 1 := by kernel_rfl
theorem ag16 : aggB Try.prog 16 = some false := by kernel_rfl
theorem ze16 : zeroL Try.prog 16 = some [.pointer none] := by kernel_rfl
theorem by16 : bytesOf' Try.prog 16 = 8 := by kernel_rfl
theorem sz17 : szOf Try.prog 17 = some 1 := by kernel_rfl
theorem ag17 : aggB Try.prog 17 = some false := by kernel_rfl
theorem ze17 : zeroL Try.prog 17 = some [.pointer none] := by kernel_rfl
theorem by17 : bytesOf' Try.prog 17 = 8 := by kernel_rfl
theorem sz18 : szOf Try.prog 18 = some 1 := by kernel_rfl
theorem ag18 : aggB Try.prog 18 = some true := by kernel_rfl
theorem ze18 : zeroL Try.prog 18 = some [.pointer none] := by kernel_rfl
theorem by18 : bytesOf' Try.prog 18 = 8 := by kernel_rfl
theorem fa18_0 (b o : Nat) : cfa Try.prog 18 0 (.pointer (some ⟨b, o, none⟩)) = some (.pointer (some ⟨b, o, none⟩)) := by kernel_rfl
theorem fz18_0 (b : Nat) : cfa Try.prog 18 0 (.pointer (some ⟨b, 0, none⟩)) = some (.pointer (some ⟨b, 0, none⟩)) := by kernel_rfl
theorem sz19 : szOf Try.prog 19 = some 1 := by kernel_rfl
theorem ag19 : aggB Try.prog 19 = some true := by kernel_rfl
theorem ze19 : zeroL Try.prog 19 = some [.pointer none] := by kernel_rfl
theorem by19 : bytesOf' Try.prog 19 = 8 := by kernel_rfl
theorem fa19_0 (b o : Nat) : cfa Try.prog 19 0 (.pointer (some ⟨b, o, none⟩)) = some (.pointer (some ⟨b, o, none⟩)) := by kernel_rfl
theorem fz19_0 (b : Nat) : cfa Try.prog 19 0 (.pointer (some ⟨b, 0, none⟩)) = some (.pointer (some ⟨b, 0, none⟩)) := by kernel_rfl
theorem sz20 : szOf Try.prog 20 = some 1 := by kernel_rfl
theorem ag20 : aggB Try.prog 20 = some false := by kernel_rfl
theorem ze20 : zeroL Try.prog 20 = some [.nilIface] := by kernel_rfl
theorem by20 : bytesOf' Try.prog 20 = 16 := by kernel_rfl
theorem sz21 : szOf Try.prog 21 = some 1 := by kernel_rfl
theorem ag21 : aggB Try.prog 21 = some false := by kernel_rfl
theorem ze21 : zeroL Try.prog 21 = some [.int .i32 0] := by kernel_rfl
theorem by21 : bytesOf' Try.prog 21 = 4 := by kernel_rfl
theorem sz22 : szOf Try.prog 22 = some 1 := by kernel_rfl
theorem ag22 : aggB Try.prog 22 = some false := by kernel_rfl
theorem ze22 : zeroL Try.prog 22 = some [.slice none 0 0] := by kernel_rfl
theorem by22 : bytesOf' Try.prog 22 = 24 := by kernel_rfl
theorem ap22 : appArg Try.prog 22 = true := by kernel_rfl
theorem sz23 : szOf Try.prog 23 = some 1 := by kernel_rfl
theorem ag23 : aggB Try.prog 23 = some false := by kernel_rfl
theorem ze23 : zeroL Try.prog 23 = some [.slice none 0 0] := by kernel_rfl
theorem by23 : bytesOf' Try.prog 23 = 24 := by kernel_rfl
theorem ap23 : appArg Try.prog 23 = true := by kernel_rfl
theorem sz24 : szOf Try.prog 24 = some 2 := by kernel_rfl
theorem ag24 : aggB Try.prog 24 = some true := by kernel_rfl
theorem ze24 : zeroL Try.prog 24 = some [.int .i64 0, .int .i64 0] := by kernel_rfl
theorem by24 : bytesOf' Try.prog 24 = 16 := by kernel_rfl
theorem fa24_0 (b o : Nat) : cfa Try.prog 24 0 (.pointer (some ⟨b, o, none⟩)) = some (.pointer (some ⟨b, o, none⟩)) := by kernel_rfl
theorem fz24_0 (b : Nat) : cfa Try.prog 24 0 (.pointer (some ⟨b, 0, none⟩)) = some (.pointer (some ⟨b, 0, none⟩)) := by kernel_rfl
theorem fa24_1 (b o : Nat) : cfa Try.prog 24 1 (.pointer (some ⟨b, o, none⟩)) = some (.pointer (some ⟨b, o + 1, none⟩)) := by kernel_rfl
theorem fz24_1 (b : Nat) : cfa Try.prog 24 1 (.pointer (some ⟨b, 0, none⟩)) = some (.pointer (some ⟨b, 1, none⟩)) := by kernel_rfl
theorem sz25 : szOf Try.prog 25 = some 2 := by kernel_rfl
theorem ag25 : aggB Try.prog 25 = some true := by kernel_rfl
theorem ze25 : zeroL Try.prog 25 = some [.int .i64 0, .int .i64 0] := by kernel_rfl
theorem by25 : bytesOf' Try.prog 25 = 16 := by kernel_rfl
theorem fa25_0 (b o : Nat) : cfa Try.prog 25 0 (.pointer (some ⟨b, o, none⟩)) = some (.pointer (some ⟨b, o, none⟩)) := by kernel_rfl
theorem fz25_0 (b : Nat) : cfa Try.prog 25 0 (.pointer (some ⟨b, 0, none⟩)) = some (.pointer (some ⟨b, 0, none⟩)) := by kernel_rfl
theorem fa25_1 (b o : Nat) : cfa Try.prog 25 1 (.pointer (some ⟨b, o, none⟩)) = some (.pointer (some ⟨b, o + 1, none⟩)) := by kernel_rfl
theorem fz25_1 (b : Nat) : cfa Try.prog 25 1 (.pointer (some ⟨b, 0, none⟩)) = some (.pointer (some ⟨b, 1, none⟩)) := by kernel_rfl
theorem sz26 : szOf Try.prog 26 = some 5 := by kernel_rfl
theorem ag26 : aggB Try.prog 26 = some true := by kernel_rfl
theorem ze26 : zeroL Try.prog 26 = some [.slice none 0 0, .int .i64 0, .int .i64 0, .int .i64 0, .int .i64 0] := by kernel_rfl
theorem by26 : bytesOf' Try.prog 26 = 56 := by kernel_rfl
theorem fa26_0 (b o : Nat) : cfa Try.prog 26 0 (.pointer (some ⟨b, o, none⟩)) = some (.pointer (some ⟨b, o, none⟩)) := by kernel_rfl
theorem fz26_0 (b : Nat) : cfa Try.prog 26 0 (.pointer (some ⟨b, 0, none⟩)) = some (.pointer (some ⟨b, 0, none⟩)) := by kernel_rfl
theorem fa26_1 (b o : Nat) : cfa Try.prog 26 1 (.pointer (some ⟨b, o, none⟩)) = some (.pointer (some ⟨b, o + 1, none⟩)) := by kernel_rfl
theorem fz26_1 (b : Nat) : cfa Try.prog 26 1 (.pointer (some ⟨b, 0, none⟩)) = some (.pointer (some ⟨b, 1, none⟩)) := by kernel_rfl
theorem fa26_2 (b o : Nat) : cfa Try.prog 26 2 (.pointer (some ⟨b, o, none⟩)) = some (.pointer (some ⟨b, o + 3, none⟩)) := by kernel_rfl
theorem fz26_2 (b : Nat) : cfa Try.prog 26 2 (.pointer (some ⟨b, 0, none⟩)) = some (.pointer (some ⟨b, 3, none⟩)) := by kernel_rfl
theorem sz27 : szOf Try.prog 27 = some 5 := by kernel_rfl
theorem ag27 : aggB Try.prog 27 = some true := by kernel_rfl
theorem ze27 : zeroL Try.prog 27 = some [.slice none 0 0, .int .i64 0, .int .i64 0, .int .i64 0, .int .i64 0] := by kernel_rfl
theorem by27 : bytesOf' Try.prog 27 = 56 := by kernel_rfl
theorem fa27_0 (b o : Nat) : cfa Try.prog 27 0 (.pointer (some ⟨b, o, none⟩)) = some (.pointer (some ⟨b, o, none⟩)) := by kernel_rfl
theorem fz27_0 (b : Nat) : cfa Try.prog 27 0 (.pointer (some ⟨b, 0, none⟩)) = some (.pointer (some ⟨b, 0, none⟩)) := by kernel_rfl
theorem fa27_1 (b o : Nat) : cfa Try.prog 27 1 (.pointer (some ⟨b, o, none⟩)) = some (.pointer (some ⟨b, o + 1, none⟩)) := by kernel_rfl
theorem fz27_1 (b : Nat) : cfa Try.prog 27 1 (.pointer (some ⟨b, 0, none⟩)) = some (.pointer (some ⟨b, 1, none⟩)) := by kernel_rfl
theorem fa27_2 (b o : Nat) : cfa Try.prog 27 2 (.pointer (some ⟨b, o, none⟩)) = some (.pointer (some ⟨b, o + 3, none⟩)) := by kernel_rfl
theorem fz27_2 (b : Nat) : cfa Try.prog 27 2 (.pointer (some ⟨b, 0, none⟩)) = some (.pointer (some ⟨b, 3, none⟩)) := by kernel_rfl
theorem sz28 : szOf Try.prog 28 = some 1 := by kernel_rfl
theorem ag28 : aggB Try.prog 28 = some false := by kernel_rfl
theorem ze28 : zeroL Try.prog 28 = some [.slice none 0 0] := by kernel_rfl
theorem by28 : bytesOf' Try.prog 28 = 24 := by kernel_rfl
theorem ap28 : appArg Try.prog 28 = true := by kernel_rfl
theorem sz29 : szOf Try.prog 29 = some 1 := by kernel_rfl
theorem ag29 : aggB Try.prog 29 = some false := by kernel_rfl
theorem ze29 : zeroL Try.prog 29 = some [.slice none 0 0] := by kernel_rfl
theorem by29 : bytesOf' Try.prog 29 = 24 := by kernel_rfl
theorem ap29 : appArg Try.prog 29 = true := by kernel_rfl
theorem sz30 : szOf Try.prog 30 = some 11 := by kernel_rfl
theorem ag30 : aggB Try.prog 30 = some true := by kernel_rfl
theorem ze30 : zeroL Try.prog 30 = some [.slice none 0 0, .slice none 0 0, .int .i64 0, .int .i64 0, .int .i64 0, .int .i64 0, .slice none 0 0, .slice none 0 0, .int .i64 0, .int .i64 0, .int .i64 0] := by kernel_rfl
theorem by30 : bytesOf' Try.prog 30 = 152 := by kernel_rfl
theorem fa30_0 (b o : Nat) : cfa Try.prog 30 0 (.pointer (some ⟨b, o, none⟩)) = some (.pointer (some ⟨b, o, none⟩)) := by kernel_rfl
theorem fz30_0 (b : Nat) : cfa Try.prog 30 0 (.pointer (some ⟨b, 0, none⟩)) = some (.pointer (some ⟨b, 0, none⟩)) := by kernel_rfl
theorem fa30_1 (b o : Nat) : cfa Try.prog 30 1 (.pointer (some ⟨b, o, none⟩)) = some (.pointer (some ⟨b, o + 1, none⟩)) := by kernel_rfl
theorem fz30_1 (b : Nat) : cfa Try.prog 30 1 (.pointer (some ⟨b, 0, none⟩)) = some (.pointer (some ⟨b, 1, none⟩)) := by kernel_rfl
theorem fa30_2 (b o : Nat) : cfa Try.prog 30 2 (.pointer (some ⟨b, o, none⟩)) = some (.pointer (some ⟨b, o + 6, none⟩)) := by kernel_rfl
theorem fz30_2 (b : Nat) : cfa Try.prog 30 2 (.pointer (some ⟨b, 0, none⟩)) = some (.pointer (some ⟨b, 6, none⟩)) := by kernel_rfl
theorem fa30_3 (b o : Nat) : cfa Try.prog 30 3 (.pointer (some ⟨b, o, none⟩)) = some (.pointer (some ⟨b, o + 7, none⟩)) := by kernel_rfl
theorem fz30_3 (b : Nat) : cfa Try.prog 30 3 (.pointer (some ⟨b, 0, none⟩)) = some (.pointer (some ⟨b, 7, none⟩)) := by kernel_rfl
theorem fa30_4 (b o : Nat) : cfa Try.prog 30 4 (.pointer (some ⟨b, o, none⟩)) = some (.pointer (some ⟨b, o + 8, none⟩)) := by kernel_rfl
theorem fz30_4 (b : Nat) : cfa Try.prog 30 4 (.pointer (some ⟨b, 0, none⟩)) = some (.pointer (some ⟨b, 8, none⟩)) := by kernel_rfl
theorem fa30_5 (b o : Nat) : cfa Try.prog 30 5 (.pointer (some ⟨b, o, none⟩)) = some (.pointer (some ⟨b, o + 9, none⟩)) := by kernel_rfl
theorem fz30_5 (b : Nat) : cfa Try.prog 30 5 (.pointer (some ⟨b, 0, none⟩)) = some (.pointer (some ⟨b, 9, none⟩)) := by kernel_rfl
theorem fa30_6 (b o : Nat) : cfa Try.prog 30 6 (.pointer (some ⟨b, o, none⟩)) = some (.pointer (some ⟨b, o + 10, none⟩)) := by kernel_rfl
theorem fz30_6 (b : Nat) : cfa Try.prog 30 6 (.pointer (some ⟨b, 0, none⟩)) = some (.pointer (some ⟨b, 10, none⟩)) := by kernel_rfl
theorem sz31 : szOf Try.prog 31 = some 11 := by kernel_rfl
theorem ag31 : aggB Try.prog 31 = some true := by kernel_rfl
theorem ze31 : zeroL Try.prog 31 = some [.slice none 0 0, .slice none 0 0, .int .i64 0, .int .i64 0, .int .i64 0, .int .i64 0, .slice none 0 0, .slice none 0 0, .int .i64 0, .int .i64 0, .int .i64 0] := by kernel_rfl
theorem by31 : bytesOf' Try.prog 31 = 152 := by kernel_rfl
theorem fa31_0 (b o : Nat) : cfa Try.prog 31 0 (.pointer (some ⟨b, o, none⟩)) = some (.pointer (some ⟨b, o, none⟩)) := by kernel_rfl
theorem fz31_0 (b : Nat) : cfa Try.prog 31 0 (.pointer (some ⟨b, 0, none⟩)) = some (.pointer (some ⟨b, 0, none⟩)) := by kernel_rfl
theorem fa31_1 (b o : Nat) : cfa Try.prog 31 1 (.pointer (some ⟨b, o, none⟩)) = some (.pointer (some ⟨b, o + 1, none⟩)) := by kernel_rfl
theorem fz31_1 (b : Nat) : cfa Try.prog 31 1 (.pointer (some ⟨b, 0, none⟩)) = some (.pointer (some ⟨b, 1, none⟩)) := by kernel_rfl
theorem fa31_2 (b o : Nat) : cfa Try.prog 31 2 (.pointer (some ⟨b, o, none⟩)) = some (.pointer (some ⟨b, o + 6, none⟩)) := by kernel_rfl
theorem fz31_2 (b : Nat) : cfa Try.prog 31 2 (.pointer (some ⟨b, 0, none⟩)) = some (.pointer (some ⟨b, 6, none⟩)) := by kernel_rfl
theorem fa31_3 (b o : Nat) : cfa Try.prog 31 3 (.pointer (some ⟨b, o, none⟩)) = some (.pointer (some ⟨b, o + 7, none⟩)) := by kernel_rfl
theorem fz31_3 (b : Nat) : cfa Try.prog 31 3 (.pointer (some ⟨b, 0, none⟩)) = some (.pointer (some ⟨b, 7, none⟩)) := by kernel_rfl
theorem fa31_4 (b o : Nat) : cfa Try.prog 31 4 (.pointer (some ⟨b, o, none⟩)) = some (.pointer (some ⟨b, o + 8, none⟩)) := by kernel_rfl
theorem fz31_4 (b : Nat) : cfa Try.prog 31 4 (.pointer (some ⟨b, 0, none⟩)) = some (.pointer (some ⟨b, 8, none⟩)) := by kernel_rfl
theorem fa31_5 (b o : Nat) : cfa Try.prog 31 5 (.pointer (some ⟨b, o, none⟩)) = some (.pointer (some ⟨b, o + 9, none⟩)) := by kernel_rfl
theorem fz31_5 (b : Nat) : cfa Try.prog 31 5 (.pointer (some ⟨b, 0, none⟩)) = some (.pointer (some ⟨b, 9, none⟩)) := by kernel_rfl
theorem fa31_6 (b o : Nat) : cfa Try.prog 31 6 (.pointer (some ⟨b, o, none⟩)) = some (.pointer (some ⟨b, o + 10, none⟩)) := by kernel_rfl
theorem fz31_6 (b : Nat) : cfa Try.prog 31 6 (.pointer (some ⟨b, 0, none⟩)) = some (.pointer (some ⟨b, 10, none⟩)) := by kernel_rfl
theorem sz32 : szOf Try.prog 32 = some 1 := by kernel_rfl
theorem ag32 : aggB Try.prog 32 = some false := by kernel_rfl
theorem ze32 : zeroL Try.prog 32 = some [.slice none 0 0] := by kernel_rfl
theorem by32 : bytesOf' Try.prog 32 = 24 := by kernel_rfl
theorem ap32 : appArg Try.prog 32 = true := by kernel_rfl
theorem sz33 : szOf Try.prog 33 = some 2 := by kernel_rfl
theorem ag33 : aggB Try.prog 33 = some true := by kernel_rfl
theorem ze33 : zeroL Try.prog 33 = some [.slice none 0 0, .slice none 0 0] := by kernel_rfl
theorem by33 : bytesOf' Try.prog 33 = 48 := by kernel_rfl
theorem fa33_0 (b o : Nat) : cfa Try.prog 33 0 (.pointer (some ⟨b, o, none⟩)) = some (.pointer (some ⟨b, o, none⟩)) := by kernel_rfl
theorem fz33_0 (b : Nat) : cfa Try.prog 33 0 (.pointer (some ⟨b, 0, none⟩)) = some (.pointer (some ⟨b, 0, none⟩)) := by kernel_rfl
theorem fa33_1 (b o : Nat) : cfa Try.prog 33 1 (.pointer (some ⟨b, o, none⟩)) = some (.pointer (some ⟨b, o + 1, none⟩)) := by kernel_rfl
theorem fz33_1 (b : Nat) : cfa Try.prog 33 1 (.pointer (some ⟨b, 0, none⟩)) = some (.pointer (some ⟨b, 1, none⟩)) := by kernel_rfl
theorem sz34 : szOf Try.prog 34 = some 2 := by kernel_rfl
theorem ag34 : aggB Try.prog 34 = some true := by kernel_rfl
theorem ze34 : zeroL Try.prog 34 = some [.slice none 0 0, .slice none 0 0] := by kernel_rfl
theorem by34 : bytesOf' Try.prog 34 = 48 := by kernel_rfl
theorem fa34_0 (b o : Nat) : cfa Try.prog 34 0 (.pointer (some ⟨b, o, none⟩)) = some (.pointer (some ⟨b, o, none⟩)) := by kernel_rfl
theorem fz34_0 (b : Nat) : cfa Try.prog 34 0 (.pointer (some ⟨b, 0, none⟩)) = some (.pointer (some ⟨b, 0, none⟩)) := by kernel_rfl
theorem fa34_1 (b o : Nat) : cfa Try.prog 34 1 (.pointer (some ⟨b, o, none⟩)) = some (.pointer (some ⟨b, o + 1, none⟩)) := by kernel_rfl
theorem fz34_1 (b : Nat) : cfa Try.prog 34 1 (.pointer (some ⟨b, 0, none⟩)) = some (.pointer (some ⟨b, 1, none⟩)) := by kernel_rfl
theorem sz35 : szOf Try.prog 35 = some 1 := by kernel_rfl
theorem ag35 : aggB Try.prog 35 = some false := by kernel_rfl
theorem ze35 : zeroL Try.prog 35 = some [.nilFunc] := by kernel_rfl
theorem by35 : bytesOf' Try.prog 35 = 8 := by kernel_rfl
theorem sz36 : szOf Try.prog 36 = some 1 := by kernel_rfl
theorem ag36 : aggB Try.prog 36 = some false := by kernel_rfl
theorem ze36 : zeroL Try.prog 36 = some [.pointer none] := by kernel_rfl
theorem by36 : bytesOf' Try.prog 36 = 8 := by kernel_rfl
theorem sz37 : szOf Try.prog 37 = some 1 := by kernel_rfl
theorem ag37 : aggB Try.prog 37 = some false := by kernel_rfl
theorem ze37 : zeroL Try.prog 37 = some [.nilFunc] := by kernel_rfl
theorem by37 : bytesOf' Try.prog 37 = 8 := by kernel_rfl
theorem sz38 : szOf Try.prog 38 = some 1 := by kernel_rfl
theorem ag38 : aggB Try.prog 38 = some false := by kernel_rfl
theorem ze38 : zeroL Try.prog 38 = some [.int .i64 0] := by kernel_rfl
theorem by38 : bytesOf' Try.prog 38 = 8 := by kernel_rfl
theorem sz40 : szOf Try.prog 40 = some 1 := by kernel_rfl
theorem ag40 : aggB Try.prog 40 = some false := by kernel_rfl
theorem ze40 : zeroL Try.prog 40 = some [.nilFunc] := by kernel_rfl
theorem by40 : bytesOf' Try.prog 40 = 8 := by kernel_rfl
theorem sz41 : szOf Try.prog 41 = some 1 := by kernel_rfl
theorem ag41 : aggB Try.prog 41 = some false := by kernel_rfl
theorem ze41 : zeroL Try.prog 41 = some [.nilFunc] := by kernel_rfl
theorem by41 : bytesOf' Try.prog 41 = 8 := by kernel_rfl
theorem sz42 : szOf Try.prog 42 = some 1 := by kernel_rfl
theorem ag42 : aggB Try.prog 42 = some false := by kernel_rfl
theorem ze42 : zeroL Try.prog 42 = some [.nilFunc] := by kernel_rfl
theorem by42 : bytesOf' Try.prog 42 = 8 := by kernel_rfl
theorem sz43 : szOf Try.prog 43 = some 1 := by kernel_rfl
theorem ag43 : aggB Try.prog 43 = some false := by kernel_rfl
theorem ze43 : zeroL Try.prog 43 = some [.nilFunc] := by kernel_rfl
theorem by43 : bytesOf' Try.prog 43 = 8 := by kernel_rfl
theorem sz45 : szOf Try.prog 45 = some 1 := by kernel_rfl
theorem ag45 : aggB Try.prog 45 = some false := by kernel_rfl
theorem ze45 : zeroL Try.prog 45 = some [.nilFunc] := by kernel_rfl
theorem by45 : bytesOf' Try.prog 45 = 8 := by kernel_rfl
theorem sz47 : szOf Try.prog 47 = some 1 := by kernel_rfl
theorem ag47 : aggB Try.prog 47 = some false := by kernel_rfl
theorem ze47 : zeroL Try.prog 47 = some [.nilFunc] := by kernel_rfl
theorem by47 : bytesOf' Try.prog 47 = 8 := by kernel_rfl
theorem sz48 : szOf Try.prog 48 = some 1 := by kernel_rfl
theorem ag48 : aggB Try.prog 48 = some false := by kernel_rfl
theorem ze48 : zeroL Try.prog 48 = some [.nilFunc] := by kernel_rfl
theorem by48 : bytesOf' Try.prog 48 = 8 := by kernel_rfl
theorem sz49 : szOf Try.prog 49 = some 1 := by kernel_rfl
theorem ag49 : aggB Try.prog 49 = some false := by kernel_rfl
theorem ze49 : zeroL Try.prog 49 = some [.nilFunc] := by kernel_rfl
theorem by49 : bytesOf' Try.prog 49 = 8 := by kernel_rfl
theorem sz50 : szOf Try.prog 50 = some 1 := by kernel_rfl
theorem ag50 : aggB Try.prog 50 = some false := by kernel_rfl
theorem ze50 : zeroL Try.prog 50 = some [.nilFunc] := by kernel_rfl
theorem by50 : bytesOf' Try.prog 50 = 8 := by kernel_rfl
theorem sz52 : szOf Try.prog 52 = some 1 := by kernel_rfl
theorem ag52 : aggB Try.prog 52 = some false := by kernel_rfl
theorem ze52 : zeroL Try.prog 52 = some [.nilFunc] := by kernel_rfl
theorem by52 : bytesOf' Try.prog 52 = 8 := by kernel_rfl
theorem sz53 : szOf Try.prog 53 = some 1 := by kernel_rfl
theorem ag53 : aggB Try.prog 53 = some false := by kernel_rfl
theorem ze53 : zeroL Try.prog 53 = some [.nilFunc] := by kernel_rfl
theorem by53 : bytesOf' Try.prog 53 = 8 := by kernel_rfl
theorem sz54 : szOf Try.prog 54 = some 1 := by kernel_rfl
theorem ag54 : aggB Try.prog 54 = some false := by kernel_rfl
theorem ze54 : zeroL Try.prog 54 = some [.nilFunc] := by kernel_rfl
theorem by54 : bytesOf' Try.prog 54 = 8 := by kernel_rfl
theorem sz55 : szOf Try.prog 55 = some 1 := by kernel_rfl
theorem ag55 : aggB Try.prog 55 = some false := by kernel_rfl
theorem ze55 : zeroL Try.prog 55 = some [.pointer none] := by kernel_rfl
theorem by55 : bytesOf' Try.prog 55 = 8 := by kernel_rfl
theorem sz57 : szOf Try.prog 57 = some 1 := by kernel_rfl
theorem ag57 : aggB Try.prog 57 = some false := by kernel_rfl
theorem ze57 : zeroL Try.prog 57 = some [.nilFunc] := by kernel_rfl
theorem by57 : bytesOf' Try.prog 57 = 8 := by kernel_rfl
theorem sz59 : szOf Try.prog 59 = some 1 := by kernel_rfl
theorem ag59 : aggB Try.prog 59 = some false := by kernel_rfl
theorem ze59 : zeroL Try.prog 59 = some [.nilFunc] := by kernel_rfl
theorem by59 : bytesOf' Try.prog 59 = 8 := by kernel_rfl
theorem sz60 : szOf Try.prog 60 = some 1 := by kernel_rfl
theorem ag60 : aggB Try.prog 60 = some false := by kernel_rfl
theorem ze60 : zeroL Try.prog 60 = some [.nilFunc] := by kernel_rfl
theorem by60 : bytesOf' Try.prog 60 = 8 := by kernel_rfl
theorem sz61 : szOf Try.prog 61 = some 1 := by kernel_rfl
theorem ag61 : aggB Try.prog 61 = some false := by kernel_rfl
theorem ze61 : zeroL Try.prog 61 = some [.nilFunc] := by kernel_rfl
theorem by61 : bytesOf' Try.prog 61 = 8 := by kernel_rfl
theorem sz62 : szOf Try.prog 62 = some 1 := by kernel_rfl
theorem ag62 : aggB Try.prog 62 = some false := by kernel_rfl
theorem ze62 : zeroL Try.prog 62 = some [.nilFunc] := by kernel_rfl
theorem by62 : bytesOf' Try.prog 62 = 8 := by kernel_rfl
theorem sz63 : szOf Try.prog 63 = some 1 := by kernel_rfl
theorem ag63 : aggB Try.prog 63 = some false := by kernel_rfl
theorem ze63 : zeroL Try.prog 63 = some [.nilFunc] := by kernel_rfl
theorem by63 : bytesOf' Try.prog 63 = 8 := by kernel_rfl
theorem sz64 : szOf Try.prog 64 = some 1 := by kernel_rfl
theorem ag64 : aggB Try.prog 64 = some false := by kernel_rfl
theorem ze64 : zeroL Try.prog 64 = some [.nilFunc] := by kernel_rfl
theorem by64 : bytesOf' Try.prog 64 = 8 := by kernel_rfl
theorem sz65 : szOf Try.prog 65 = some 1 := by kernel_rfl
theorem ag65 : aggB Try.prog 65 = some false := by kernel_rfl
theorem ze65 : zeroL Try.prog 65 = some [.nilFunc] := by kernel_rfl
theorem by65 : bytesOf' Try.prog 65 = 8 := by kernel_rfl
theorem sz66 : szOf Try.prog 66 = some 1 := by kernel_rfl
theorem ag66 : aggB Try.prog 66 = some false := by kernel_rfl
theorem ze66 : zeroL Try.prog 66 = some [.nilFunc] := by kernel_rfl
theorem by66 : bytesOf' Try.prog 66 = 8 := by kernel_rfl
theorem sz67 : szOf Try.prog 67 = some 1 := by kernel_rfl
theorem ag67 : aggB Try.prog 67 = some false := by kernel_rfl
theorem ze67 : zeroL Try.prog 67 = some [.slice none 0 0] := by kernel_rfl
theorem by67 : bytesOf' Try.prog 67 = 24 := by kernel_rfl
theorem ap67 : appArg Try.prog 67 = true := by kernel_rfl
theorem sz68 : szOf Try.prog 68 = some 7 := by kernel_rfl
theorem ag68 : aggB Try.prog 68 = some true := by kernel_rfl
theorem ze68 : zeroL Try.prog 68 = some [.string ⟨#[]⟩, .int .i64 0, .int .i64 0, .int .i64 0, .int .i64 0, .int .i64 0, .slice none 0 0] := by kernel_rfl
theorem by68 : bytesOf' Try.prog 68 = 80 := by kernel_rfl
theorem fa68_0 (b o : Nat) : cfa Try.prog 68 0 (.pointer (some ⟨b, o, none⟩)) = some (.pointer (some ⟨b, o, none⟩)) := by kernel_rfl
theorem fz68_0 (b : Nat) : cfa Try.prog 68 0 (.pointer (some ⟨b, 0, none⟩)) = some (.pointer (some ⟨b, 0, none⟩)) := by kernel_rfl
theorem fa68_1 (b o : Nat) : cfa Try.prog 68 1 (.pointer (some ⟨b, o, none⟩)) = some (.pointer (some ⟨b, o + 1, none⟩)) := by kernel_rfl
theorem fz68_1 (b : Nat) : cfa Try.prog 68 1 (.pointer (some ⟨b, 0, none⟩)) = some (.pointer (some ⟨b, 1, none⟩)) := by kernel_rfl
theorem fa68_2 (b o : Nat) : cfa Try.prog 68 2 (.pointer (some ⟨b, o, none⟩)) = some (.pointer (some ⟨b, o + 2, none⟩)) := by kernel_rfl
theorem fz68_2 (b : Nat) : cfa Try.prog 68 2 (.pointer (some ⟨b, 0, none⟩)) = some (.pointer (some ⟨b, 2, none⟩)) := by kernel_rfl
theorem fa68_3 (b o : Nat) : cfa Try.prog 68 3 (.pointer (some ⟨b, o, none⟩)) = some (.pointer (some ⟨b, o + 4, none⟩)) := by kernel_rfl
theorem fz68_3 (b : Nat) : cfa Try.prog 68 3 (.pointer (some ⟨b, 0, none⟩)) = some (.pointer (some ⟨b, 4, none⟩)) := by kernel_rfl
theorem fa68_4 (b o : Nat) : cfa Try.prog 68 4 (.pointer (some ⟨b, o, none⟩)) = some (.pointer (some ⟨b, o + 6, none⟩)) := by kernel_rfl
theorem fz68_4 (b : Nat) : cfa Try.prog 68 4 (.pointer (some ⟨b, 0, none⟩)) = some (.pointer (some ⟨b, 6, none⟩)) := by kernel_rfl
theorem sz69 : szOf Try.prog 69 = some 7 := by kernel_rfl
theorem ag69 : aggB Try.prog 69 = some true := by kernel_rfl
theorem ze69 : zeroL Try.prog 69 = some [.string ⟨#[]⟩, .int .i64 0, .int .i64 0, .int .i64 0, .int .i64 0, .int .i64 0, .slice none 0 0] := by kernel_rfl
theorem by69 : bytesOf' Try.prog 69 = 80 := by kernel_rfl
theorem fa69_0 (b o : Nat) : cfa Try.prog 69 0 (.pointer (some ⟨b, o, none⟩)) = some (.pointer (some ⟨b, o, none⟩)) := by kernel_rfl
theorem fz69_0 (b : Nat) : cfa Try.prog 69 0 (.pointer (some ⟨b, 0, none⟩)) = some (.pointer (some ⟨b, 0, none⟩)) := by kernel_rfl
theorem fa69_1 (b o : Nat) : cfa Try.prog 69 1 (.pointer (some ⟨b, o, none⟩)) = some (.pointer (some ⟨b, o + 1, none⟩)) := by kernel_rfl
theorem fz69_1 (b : Nat) : cfa Try.prog 69 1 (.pointer (some ⟨b, 0, none⟩)) = some (.pointer (some ⟨b, 1, none⟩)) := by kernel_rfl
theorem fa69_2 (b o : Nat) : cfa Try.prog 69 2 (.pointer (some ⟨b, o, none⟩)) = some (.pointer (some ⟨b, o + 2, none⟩)) := by kernel_rfl
theorem fz69_2 (b : Nat) : cfa Try.prog 69 2 (.pointer (some ⟨b, 0, none⟩)) = some (.pointer (some ⟨b, 2, none⟩)) := by kernel_rfl
theorem fa69_3 (b o : Nat) : cfa Try.prog 69 3 (.pointer (some ⟨b, o, none⟩)) = some (.pointer (some ⟨b, o + 4, none⟩)) := by kernel_rfl
theorem fz69_3 (b : Nat) : cfa Try.prog 69 3 (.pointer (some ⟨b, 0, none⟩)) = some (.pointer (some ⟨b, 4, none⟩)) := by kernel_rfl
theorem fa69_4 (b o : Nat) : cfa Try.prog 69 4 (.pointer (some ⟨b, o, none⟩)) = some (.pointer (some ⟨b, o + 6, none⟩)) := by kernel_rfl
theorem fz69_4 (b : Nat) : cfa Try.prog 69 4 (.pointer (some ⟨b, 0, none⟩)) = some (.pointer (some ⟨b, 6, none⟩)) := by kernel_rfl
theorem sz70 : szOf Try.prog 70 = some 1 := by kernel_rfl
theorem ag70 : aggB Try.prog 70 = some false := by kernel_rfl
theorem ze70 : zeroL Try.prog 70 = some [.nilFunc] := by kernel_rfl
theorem by70 : bytesOf' Try.prog 70 = 8 := by kernel_rfl
theorem sz71 : szOf Try.prog 71 = some 1 := by kernel_rfl
theorem ag71 : aggB Try.prog 71 = some false := by kernel_rfl
theorem ze71 : zeroL Try.prog 71 = some [.nilFunc] := by kernel_rfl
theorem by71 : bytesOf' Try.prog 71 = 8 := by kernel_rfl
theorem sz72 : szOf Try.prog 72 = some 1 := by kernel_rfl
theorem ag72 : aggB Try.prog 72 = some false := by kernel_rfl
theorem ze72 : zeroL Try.prog 72 = some [.nilFunc] := by kernel_rfl
theorem by72 : bytesOf' Try.prog 72 = 8 := by kernel_rfl
theorem sz73 : szOf Try.prog 73 = some 2 := by kernel_rfl
theorem ag73 : aggB Try.prog 73 = some true := by kernel_rfl
theorem ze73 : zeroL Try.prog 73 = some [.slice none 0 0, .int .i64 0] := by kernel_rfl
theorem by73 : bytesOf' Try.prog 73 = 32 := by kernel_rfl
theorem fa73_0 (b o : Nat) : cfa Try.prog 73 0 (.pointer (some ⟨b, o, none⟩)) = some (.pointer (some ⟨b, o, none⟩)) := by kernel_rfl
theorem fz73_0 (b : Nat) : cfa Try.prog 73 0 (.pointer (some ⟨b, 0, none⟩)) = some (.pointer (some ⟨b, 0, none⟩)) := by kernel_rfl
theorem fa73_1 (b o : Nat) : cfa Try.prog 73 1 (.pointer (some ⟨b, o, none⟩)) = some (.pointer (some ⟨b, o + 1, none⟩)) := by kernel_rfl
theorem fz73_1 (b : Nat) : cfa Try.prog 73 1 (.pointer (some ⟨b, 0, none⟩)) = some (.pointer (some ⟨b, 1, none⟩)) := by kernel_rfl
theorem sz74 : szOf Try.prog 74 = some 2 := by kernel_rfl
theorem ag74 : aggB Try.prog 74 = some true := by kernel_rfl
theorem ze74 : zeroL Try.prog 74 = some [.slice none 0 0, .int .i64 0] := by kernel_rfl
theorem by74 : bytesOf' Try.prog 74 = 32 := by kernel_rfl
theorem fa74_0 (b o : Nat) : cfa Try.prog 74 0 (.pointer (some ⟨b, o, none⟩)) = some (.pointer (some ⟨b, o, none⟩)) := by kernel_rfl
theorem fz74_0 (b : Nat) : cfa Try.prog 74 0 (.pointer (some ⟨b, 0, none⟩)) = some (.pointer (some ⟨b, 0, none⟩)) := by kernel_rfl
theorem fa74_1 (b o : Nat) : cfa Try.prog 74 1 (.pointer (some ⟨b, o, none⟩)) = some (.pointer (some ⟨b, o + 1, none⟩)) := by kernel_rfl
theorem fz74_1 (b : Nat) : cfa Try.prog 74 1 (.pointer (some ⟨b, 0, none⟩)) = some (.pointer (some ⟨b, 1, none⟩)) := by kernel_rfl
theorem sz75 : szOf Try.prog 75 = some 1 := by kernel_rfl
theorem ag75 : aggB Try.prog 75 = some false := by kernel_rfl
theorem ze75 : zeroL Try.prog 75 = some [.nilFunc] := by kernel_rfl
theorem by75 : bytesOf' Try.prog 75 = 8 := by kernel_rfl
theorem sz76 : szOf Try.prog 76 = some 1 := by kernel_rfl
theorem ag76 : aggB Try.prog 76 = some false := by kernel_rfl
theorem ze76 : zeroL Try.prog 76 = some [.nilFunc] := by kernel_rfl
theorem by76 : bytesOf' Try.prog 76 = 8 := by kernel_rfl
theorem sz77 : szOf Try.prog 77 = some 1 := by kernel_rfl
theorem ag77 : aggB Try.prog 77 = some false := by kernel_rfl
theorem ze77 : zeroL Try.prog 77 = some [.nilFunc] := by kernel_rfl
theorem by77 : bytesOf' Try.prog 77 = 8 := by kernel_rfl
theorem sz79 : szOf Try.prog 79 = some 1 := by kernel_rfl
theorem ag79 : aggB Try.prog 79 = some false := by kernel_rfl
theorem ze79 : zeroL Try.prog 79 = some [.nilFunc] := by kernel_rfl
theorem by79 : bytesOf' Try.prog 79 = 8 := by kernel_rfl
theorem sz80 : szOf Try.prog 80 = some 1 := by kernel_rfl
theorem ag80 : aggB Try.prog 80 = some false := by kernel_rfl
theorem ze80 : zeroL Try.prog 80 = some [.slice none 0 0] := by kernel_rfl
theorem by80 : bytesOf' Try.prog 80 = 24 := by kernel_rfl
theorem ap80 : appArg Try.prog 80 = true := by kernel_rfl
theorem sz81 : szOf Try.prog 81 = some 1 := by kernel_rfl
theorem ag81 : aggB Try.prog 81 = some false := by kernel_rfl
theorem ze81 : zeroL Try.prog 81 = some [.nilFunc] := by kernel_rfl
theorem by81 : bytesOf' Try.prog 81 = 8 := by kernel_rfl
theorem sz82 : szOf Try.prog 82 = some 1 := by kernel_rfl
theorem ag82 : aggB Try.prog 82 = some false := by kernel_rfl
theorem ze82 : zeroL Try.prog 82 = some [.nilFunc] := by kernel_rfl
theorem by82 : bytesOf' Try.prog 82 = 8 := by kernel_rfl
theorem sz83 : szOf Try.prog 83 = some 1 := by kernel_rfl
theorem ag83 : aggB Try.prog 83 = some false := by kernel_rfl
theorem ze83 : zeroL Try.prog 83 = some [.nilFunc] := by kernel_rfl
theorem by83 : bytesOf' Try.prog 83 = 8 := by kernel_rfl
theorem sz84 : szOf Try.prog 84 = some 8 := by kernel_rfl
theorem ag84 : aggB Try.prog 84 = some true := by kernel_rfl
theorem ze84 : zeroL Try.prog 84 = some [.string ⟨#[]⟩, .int .i64 0, .int .i64 0, .int .i64 0, .int .i64 0, .int .i64 0, .slice none 0 0, .int .i64 0] := by kernel_rfl
theorem by84 : bytesOf' Try.prog 84 = 88 := by kernel_rfl
theorem fa84_0 (b o : Nat) : cfa Try.prog 84 0 (.pointer (some ⟨b, o, none⟩)) = some (.pointer (some ⟨b, o, none⟩)) := by kernel_rfl
theorem fz84_0 (b : Nat) : cfa Try.prog 84 0 (.pointer (some ⟨b, 0, none⟩)) = some (.pointer (some ⟨b, 0, none⟩)) := by kernel_rfl
theorem fa84_1 (b o : Nat) : cfa Try.prog 84 1 (.pointer (some ⟨b, o, none⟩)) = some (.pointer (some ⟨b, o + 7, none⟩)) := by kernel_rfl
theorem fz84_1 (b : Nat) : cfa Try.prog 84 1 (.pointer (some ⟨b, 0, none⟩)) = some (.pointer (some ⟨b, 7, none⟩)) := by kernel_rfl
theorem sz85 : szOf Try.prog 85 = some 8 := by kernel_rfl
theorem ag85 : aggB Try.prog 85 = some true := by kernel_rfl
theorem ze85 : zeroL Try.prog 85 = some [.string ⟨#[]⟩, .int .i64 0, .int .i64 0, .int .i64 0, .int .i64 0, .int .i64 0, .slice none 0 0, .int .i64 0] := by kernel_rfl
theorem by85 : bytesOf' Try.prog 85 = 88 := by kernel_rfl
theorem fa85_0 (b o : Nat) : cfa Try.prog 85 0 (.pointer (some ⟨b, o, none⟩)) = some (.pointer (some ⟨b, o, none⟩)) := by kernel_rfl
theorem fz85_0 (b : Nat) : cfa Try.prog 85 0 (.pointer (some ⟨b, 0, none⟩)) = some (.pointer (some ⟨b, 0, none⟩)) := by kernel_rfl
theorem fa85_1 (b o : Nat) : cfa Try.prog 85 1 (.pointer (some ⟨b, o, none⟩)) = some (.pointer (some ⟨b, o + 7, none⟩)) := by kernel_rfl
theorem fz85_1 (b : Nat) : cfa Try.prog 85 1 (.pointer (some ⟨b, 0, none⟩)) = some (.pointer (some ⟨b, 7, none⟩)) := by kernel_rfl
theorem sz86 : szOf Try.prog 86 = some 2 := by kernel_rfl
theorem ag86 : aggB Try.prog 86 = some true := by kernel_rfl
theorem ze86 : zeroL Try.prog 86 = some [.int .i64 0, .int .i64 0] := by kernel_rfl
theorem by86 : bytesOf' Try.prog 86 = 16 := by kernel_rfl
theorem fa86_0 (b o : Nat) : cfa Try.prog 86 0 (.pointer (some ⟨b, o, none⟩)) = some (.pointer (some ⟨b, o, none⟩)) := by kernel_rfl
theorem fz86_0 (b : Nat) : cfa Try.prog 86 0 (.pointer (some ⟨b, 0, none⟩)) = some (.pointer (some ⟨b, 0, none⟩)) := by kernel_rfl
theorem fa86_1 (b o : Nat) : cfa Try.prog 86 1 (.pointer (some ⟨b, o, none⟩)) = some (.pointer (some ⟨b, o + 1, none⟩)) := by kernel_rfl
theorem fz86_1 (b : Nat) : cfa Try.prog 86 1 (.pointer (some ⟨b, 0, none⟩)) = some (.pointer (some ⟨b, 1, none⟩)) := by kernel_rfl
theorem sz87 : szOf Try.prog 87 = some 2 := by kernel_rfl
theorem ag87 : aggB Try.prog 87 = some true := by kernel_rfl
theorem ze87 : zeroL Try.prog 87 = some [.int .i64 0, .int .i64 0] := by kernel_rfl
theorem by87 : bytesOf' Try.prog 87 = 16 := by kernel_rfl
theorem fa87_0 (b o : Nat) : cfa Try.prog 87 0 (.pointer (some ⟨b, o, none⟩)) = some (.pointer (some ⟨b, o, none⟩)) := by kernel_rfl
theorem fz87_0 (b : Nat) : cfa Try.prog 87 0 (.pointer (some ⟨b, 0, none⟩)) = some (.pointer (some ⟨b, 0, none⟩)) := by kernel_rfl
theorem fa87_1 (b o : Nat) : cfa Try.prog 87 1 (.pointer (some ⟨b, o, none⟩)) = some (.pointer (some ⟨b, o + 1, none⟩)) := by kernel_rfl
theorem fz87_1 (b : Nat) : cfa Try.prog 87 1 (.pointer (some ⟨b, 0, none⟩)) = some (.pointer (some ⟨b, 1, none⟩)) := by kernel_rfl
theorem sz88 : szOf Try.prog 88 = some 1 := by kernel_rfl
theorem ag88 : aggB Try.prog 88 = some false := by kernel_rfl
theorem ze88 : zeroL Try.prog 88 = some [.nilFunc] := by kernel_rfl
theorem by88 : bytesOf' Try.prog 88 = 8 := by kernel_rfl
theorem sz89 : szOf Try.prog 89 = some 1 := by kernel_rfl
theorem ag89 : aggB Try.prog 89 = some false := by kernel_rfl
theorem ze89 : zeroL Try.prog 89 = some [.nilFunc] := by kernel_rfl
theorem by89 : bytesOf' Try.prog 89 = 8 := by kernel_rfl
theorem sz90 : szOf Try.prog 90 = some 1 := by kernel_rfl
theorem ag90 : aggB Try.prog 90 = some false := by kernel_rfl
theorem ze90 : zeroL Try.prog 90 = some [.nilFunc] := by kernel_rfl
theorem by90 : bytesOf' Try.prog 90 = 8 := by kernel_rfl
theorem sz91 : szOf Try.prog 91 = some 1 := by kernel_rfl
theorem ag91 : aggB Try.prog 91 = some false := by kernel_rfl
theorem ze91 : zeroL Try.prog 91 = some [.nilFunc] := by kernel_rfl
theorem by91 : bytesOf' Try.prog 91 = 8 := by kernel_rfl
theorem sz92 : szOf Try.prog 92 = some 1 := by kernel_rfl
theorem ag92 : aggB Try.prog 92 = some false := by kernel_rfl
theorem ze92 : zeroL Try.prog 92 = some [.nilFunc] := by kernel_rfl
theorem by92 : bytesOf' Try.prog 92 = 8 := by kernel_rfl
theorem sz93 : szOf Try.prog 93 = some 1 := by kernel_rfl
theorem ag93 : aggB Try.prog 93 = some false := by kernel_rfl
theorem ze93 : zeroL Try.prog 93 = some [.nilFunc] := by kernel_rfl
theorem by93 : bytesOf' Try.prog 93 = 8 := by kernel_rfl
theorem sz94 : szOf Try.prog 94 = some 1 := by kernel_rfl
theorem ag94 : aggB Try.prog 94 = some false := by kernel_rfl
theorem ze94 : zeroL Try.prog 94 = some [.nilFunc] := by kernel_rfl
theorem by94 : bytesOf' Try.prog 94 = 8 := by kernel_rfl
theorem sz95 : szOf Try.prog 95 = some 1 := by kernel_rfl
theorem ag95 : aggB Try.prog 95 = some false := by kernel_rfl
theorem ze95 : zeroL Try.prog 95 = some [.nilFunc] := by kernel_rfl
theorem by95 : bytesOf' Try.prog 95 = 8 := by kernel_rfl
theorem sz96 : szOf Try.prog 96 = some 1 := by kernel_rfl
theorem ag96 : aggB Try.prog 96 = some false := by kernel_rfl
theorem ze96 : zeroL Try.prog 96 = some [.nilFunc] := by kernel_rfl
theorem by96 : bytesOf' Try.prog 96 = 8 := by kernel_rfl
theorem sz97 : szOf Try.prog 97 = some 1 := by kernel_rfl
theorem ag97 : aggB Try.prog 97 = some false := by kernel_rfl
theorem ze97 : zeroL Try.prog 97 = some [.nilFunc] := by kernel_rfl
theorem by97 : bytesOf' Try.prog 97 = 8 := by kernel_rfl
theorem sz98 : szOf Try.prog 98 = some 1 := by kernel_rfl
theorem ag98 : aggB Try.prog 98 = some false := by kernel_rfl
theorem ze98 : zeroL Try.prog 98 = some [.nilFunc] := by kernel_rfl
theorem by98 : bytesOf' Try.prog 98 = 8 := by kernel_rfl
theorem sz99 : szOf Try.prog 99 = some 1 := by kernel_rfl
theorem ag99 : aggB Try.prog 99 = some false := by kernel_rfl
theorem ze99 : zeroL Try.prog 99 = some [.nilFunc] := by kernel_rfl
theorem by99 : bytesOf' Try.prog 99 = 8 := by kernel_rfl
theorem sz100 : szOf Try.prog 100 = some 1 := by kernel_rfl
theorem ag100 : aggB Try.prog 100 = some false := by kernel_rfl
theorem ze100 : zeroL Try.prog 100 = some [.nilFunc] := by kernel_rfl
theorem by100 : bytesOf' Try.prog 100 = 8 := by kernel_rfl
theorem sz101 : szOf Try.prog 101 = some 1 := by kernel_rfl
theorem ag101 : aggB Try.prog 101 = some false := by kernel_rfl
theorem ze101 : zeroL Try.prog 101 = some [.nilFunc] := by kernel_rfl
theorem by101 : bytesOf' Try.prog 101 = 8 := by kernel_rfl
theorem sz102 : szOf Try.prog 102 = some 1 := by kernel_rfl
theorem ag102 : aggB Try.prog 102 = some false := by kernel_rfl
theorem ze102 : zeroL Try.prog 102 = some [.nilFunc] := by kernel_rfl
theorem by102 : bytesOf' Try.prog 102 = 8 := by kernel_rfl
theorem sz103 : szOf Try.prog 103 = some 1 := by kernel_rfl
theorem ag103 : aggB Try.prog 103 = some false := by kernel_rfl
theorem ze103 : zeroL Try.prog 103 = some [.nilFunc] := by kernel_rfl
theorem by103 : bytesOf' Try.prog 103 = 8 := by kernel_rfl
theorem sz104 : szOf Try.prog 104 = some 1 := by kernel_rfl
theorem ag104 : aggB Try.prog 104 = some false := by kernel_rfl
theorem ze104 : zeroL Try.prog 104 = some [.nilFunc] := by kernel_rfl
theorem by104 : bytesOf' Try.prog 104 = 8 := by kernel_rfl
theorem sz105 : szOf Try.prog 105 = some 1 := by kernel_rfl
theorem ag105 : aggB Try.prog 105 = some false := by kernel_rfl
theorem ze105 : zeroL Try.prog 105 = some [.nilFunc] := by kernel_rfl
theorem by105 : bytesOf' Try.prog 105 = 8 := by kernel_rfl
theorem sz106 : szOf Try.prog 106 = some 1 := by kernel_rfl
theorem ag106 : aggB Try.prog 106 = some false := by kernel_rfl
theorem ze106 : zeroL Try.prog 106 = some [.nilFunc] := by kernel_rfl
theorem by106 : bytesOf' Try.prog 106 = 8 := by kernel_rfl
theorem sz107 : szOf Try.prog 107 = some 1 := by kernel_rfl
theorem ag107 : aggB Try.prog 107 = some false := by kernel_rfl
theorem ze107 : zeroL Try.prog 107 = some [.nilFunc] := by kernel_rfl
theorem by107 : bytesOf' Try.prog 107 = 8 := by kernel_rfl
theorem sz108 : szOf Try.prog 108 = some 1 := by kernel_rfl
theorem ag108 : aggB Try.prog 108 = some false := by kernel_rfl
theorem ze108 : zeroL Try.prog 108 = some [.nilFunc] := by kernel_rfl
theorem by108 : bytesOf' Try.prog 108 = 8 := by kernel_rfl
theorem sz109 : szOf Try.prog 109 = some 1 := by kernel_rfl
theorem ag109 : aggB Try.prog 109 = some false := by kernel_rfl
theorem ze109 : zeroL Try.prog 109 = some [.nilFunc] := by kernel_rfl
theorem by109 : bytesOf' Try.prog 109 = 8 := by kernel_rfl
theorem sz110 : szOf Try.prog 110 = some 1 := by kernel_rfl
theorem ag110 : aggB Try.prog 110 = some false := by kernel_rfl
theorem ze110 : zeroL Try.prog 110 = some [.nilFunc] := by kernel_rfl
theorem by110 : bytesOf' Try.prog 110 = 8 := by kernel_rfl
theorem sz111 : szOf Try.prog 111 = some 1 := by kernel_rfl
theorem ag111 : aggB Try.prog 111 = some false := by kernel_rfl
theorem ze111 : zeroL Try.prog 111 = some [.nilFunc] := by kernel_rfl
theorem by111 : bytesOf' Try.prog 111 = 8 := by kernel_rfl
theorem sz112 : szOf Try.prog 112 = some 1 := by kernel_rfl
theorem ag112 : aggB Try.prog 112 = some false := by kernel_rfl
theorem ze112 : zeroL Try.prog 112 = some [.nilFunc] := by kernel_rfl
theorem by112 : bytesOf' Try.prog 112 = 8 := by kernel_rfl
theorem sz113 : szOf Try.prog 113 = some 2 := by kernel_rfl
theorem ag113 : aggB Try.prog 113 = some true := by kernel_rfl
theorem ze113 : zeroL Try.prog 113 = some [.int .i64 0, .int .i64 0] := by kernel_rfl
theorem by113 : bytesOf' Try.prog 113 = 16 := by kernel_rfl
theorem fa113_0 (b o : Nat) : cfa Try.prog 113 0 (.pointer (some ⟨b, o, none⟩)) = some (.pointer (some ⟨b, o, none⟩)) := by kernel_rfl
theorem fz113_0 (b : Nat) : cfa Try.prog 113 0 (.pointer (some ⟨b, 0, none⟩)) = some (.pointer (some ⟨b, 0, none⟩)) := by kernel_rfl
theorem fa113_1 (b o : Nat) : cfa Try.prog 113 1 (.pointer (some ⟨b, o, none⟩)) = some (.pointer (some ⟨b, o + 1, none⟩)) := by kernel_rfl
theorem fz113_1 (b : Nat) : cfa Try.prog 113 1 (.pointer (some ⟨b, 0, none⟩)) = some (.pointer (some ⟨b, 1, none⟩)) := by kernel_rfl
theorem sz114 : szOf Try.prog 114 = some 2 := by kernel_rfl
theorem ag114 : aggB Try.prog 114 = some true := by kernel_rfl
theorem ze114 : zeroL Try.prog 114 = some [.int .i64 0, .int .i64 0] := by kernel_rfl
theorem by114 : bytesOf' Try.prog 114 = 16 := by kernel_rfl
theorem fa114_0 (b o : Nat) : cfa Try.prog 114 0 (.pointer (some ⟨b, o, none⟩)) = some (.pointer (some ⟨b, o, none⟩)) := by kernel_rfl
theorem fz114_0 (b : Nat) : cfa Try.prog 114 0 (.pointer (some ⟨b, 0, none⟩)) = some (.pointer (some ⟨b, 0, none⟩)) := by kernel_rfl
theorem fa114_1 (b o : Nat) : cfa Try.prog 114 1 (.pointer (some ⟨b, o, none⟩)) = some (.pointer (some ⟨b, o + 1, none⟩)) := by kernel_rfl
theorem fz114_1 (b : Nat) : cfa Try.prog 114 1 (.pointer (some ⟨b, 0, none⟩)) = some (.pointer (some ⟨b, 1, none⟩)) := by kernel_rfl
theorem sz115 : szOf Try.prog 115 = some 1 := by kernel_rfl
theorem ag115 : aggB Try.prog 115 = some false := by kernel_rfl
theorem ze115 : zeroL Try.prog 115 = some [.nilFunc] := by kernel_rfl
theorem by115 : bytesOf' Try.prog 115 = 8 := by kernel_rfl
theorem sz116 : szOf Try.prog 116 = some 5 := by kernel_rfl
theorem ag116 : aggB Try.prog 116 = some true := by kernel_rfl
theorem ze116 : zeroL Try.prog 116 = some [.int .i64 0, .int .i64 0, .int .i64 0, .int .i64 0, .int .i64 0] := by kernel_rfl
theorem by116 : bytesOf' Try.prog 116 = 40 := by kernel_rfl
theorem sz117 : szOf Try.prog 117 = some 5 := by kernel_rfl
theorem ag117 : aggB Try.prog 117 = some true := by kernel_rfl
theorem ze117 : zeroL Try.prog 117 = some [.nilFunc, .nilFunc, .nilFunc, .nilFunc, .nilFunc] := by kernel_rfl
theorem by117 : bytesOf' Try.prog 117 = 40 := by kernel_rfl
theorem sz118 : szOf Try.prog 118 = some 1 := by kernel_rfl
theorem ag118 : aggB Try.prog 118 = some false := by kernel_rfl
theorem ze118 : zeroL Try.prog 118 = some [.nilFunc] := by kernel_rfl
theorem by118 : bytesOf' Try.prog 118 = 8 := by kernel_rfl
theorem sz119 : szOf Try.prog 119 = some 1 := by kernel_rfl
theorem ag119 : aggB Try.prog 119 = some false := by kernel_rfl
theorem ze119 : zeroL Try.prog 119 = some [.nilFunc] := by kernel_rfl
theorem by119 : bytesOf' Try.prog 119 = 8 := by kernel_rfl
theorem sz120 : szOf Try.prog 120 = some 1 := by kernel_rfl
theorem ag120 : aggB Try.prog 120 = some false := by kernel_rfl
theorem ze120 : zeroL Try.prog 120 = some [.nilFunc] := by kernel_rfl
theorem by120 : bytesOf' Try.prog 120 = 8 := by kernel_rfl
theorem sz121 : szOf Try.prog 121 = some 1 := by kernel_rfl
theorem ag121 : aggB Try.prog 121 = some false := by kernel_rfl
theorem ze121 : zeroL Try.prog 121 = some [.nilFunc] := by kernel_rfl
theorem by121 : bytesOf' Try.prog 121 = 8 := by kernel_rfl
theorem sz122 : szOf Try.prog 122 = some 1 := by kernel_rfl
theorem ag122 : aggB Try.prog 122 = some false := by kernel_rfl
theorem ze122 : zeroL Try.prog 122 = some [.nilFunc] := by kernel_rfl
theorem by122 : bytesOf' Try.prog 122 = 8 := by kernel_rfl
theorem sz123 : szOf Try.prog 123 = some 1 := by kernel_rfl
theorem ag123 : aggB Try.prog 123 = some false := by kernel_rfl
theorem ze123 : zeroL Try.prog 123 = some [.pointer none] := by kernel_rfl
theorem by123 : bytesOf' Try.prog 123 = 8 := by kernel_rfl
theorem sz124 : szOf Try.prog 124 = some 1 := by kernel_rfl
theorem ag124 : aggB Try.prog 124 = some false := by kernel_rfl
theorem ze124 : zeroL Try.prog 124 = some [.nilFunc] := by kernel_rfl
theorem by124 : bytesOf' Try.prog 124 = 8 := by kernel_rfl
theorem sz125 : szOf Try.prog 125 = some 1 := by kernel_rfl
theorem ag125 : aggB Try.prog 125 = some false := by kernel_rfl
theorem ze125 : zeroL Try.prog 125 = some [.nilFunc] := by kernel_rfl
theorem by125 : bytesOf' Try.prog 125 = 8 := by kernel_rfl
theorem sz126 : szOf Try.prog 126 = some 1 := by kernel_rfl
theorem ag126 : aggB Try.prog 126 = some false := by kernel_rfl
theorem ze126 : zeroL Try.prog 126 = some [.nilFunc] := by kernel_rfl
theorem by126 : bytesOf' Try.prog 126 = 8 := by kernel_rfl
theorem sz127 : szOf Try.prog 127 = some 1 := by kernel_rfl
theorem ag127 : aggB Try.prog 127 = some false := by kernel_rfl
theorem ze127 : zeroL Try.prog 127 = some [.nilFunc] := by kernel_rfl
theorem by127 : bytesOf' Try.prog 127 = 8 := by kernel_rfl
theorem sz128 : szOf Try.prog 128 = some 1 := by kernel_rfl
theorem ag128 : aggB Try.prog 128 = some false := by kernel_rfl
theorem ze128 : zeroL Try.prog 128 = some [.int .u64 0] := by kernel_rfl
theorem by128 : bytesOf' Try.prog 128 = 8 := by kernel_rfl
theorem sz129 : szOf Try.prog 129 = some 1 := by kernel_rfl
theorem ag129 : aggB Try.prog 129 = some false := by kernel_rfl
theorem ze129 : zeroL Try.prog 129 = some [.nilFunc] := by kernel_rfl
theorem by129 : bytesOf' Try.prog 129 = 8 := by kernel_rfl
theorem sz130 : szOf Try.prog 130 = some 1 := by kernel_rfl
theorem ag130 : aggB Try.prog 130 = some false := by kernel_rfl
theorem ze130 : zeroL Try.prog 130 = some [.nilFunc] := by kernel_rfl
theorem by130 : bytesOf' Try.prog 130 = 8 := by kernel_rfl
theorem sz131 : szOf Try.prog 131 = some 1 := by kernel_rfl
theorem ag131 : aggB Try.prog 131 = some false := by kernel_rfl
theorem ze131 : zeroL Try.prog 131 = some [.nilFunc] := by kernel_rfl
theorem by131 : bytesOf' Try.prog 131 = 8 := by kernel_rfl
theorem sz132 : szOf Try.prog 132 = some 4 := by kernel_rfl
theorem ag132 : aggB Try.prog 132 = some true := by kernel_rfl
theorem ze132 : zeroL Try.prog 132 = some [.pointer none, .pointer none, .pointer none, .string ⟨#[]⟩] := by kernel_rfl
theorem by132 : bytesOf' Try.prog 132 = 40 := by kernel_rfl
theorem fa132_0 (b o : Nat) : cfa Try.prog 132 0 (.pointer (some ⟨b, o, none⟩)) = some (.pointer (some ⟨b, o, none⟩)) := by kernel_rfl
theorem fz132_0 (b : Nat) : cfa Try.prog 132 0 (.pointer (some ⟨b, 0, none⟩)) = some (.pointer (some ⟨b, 0, none⟩)) := by kernel_rfl
theorem fa132_1 (b o : Nat) : cfa Try.prog 132 1 (.pointer (some ⟨b, o, none⟩)) = some (.pointer (some ⟨b, o + 1, none⟩)) := by kernel_rfl
theorem fz132_1 (b : Nat) : cfa Try.prog 132 1 (.pointer (some ⟨b, 0, none⟩)) = some (.pointer (some ⟨b, 1, none⟩)) := by kernel_rfl
theorem fa132_2 (b o : Nat) : cfa Try.prog 132 2 (.pointer (some ⟨b, o, none⟩)) = some (.pointer (some ⟨b, o + 2, none⟩)) := by kernel_rfl
theorem fz132_2 (b : Nat) : cfa Try.prog 132 2 (.pointer (some ⟨b, 0, none⟩)) = some (.pointer (some ⟨b, 2, none⟩)) := by kernel_rfl
theorem fa132_3 (b o : Nat) : cfa Try.prog 132 3 (.pointer (some ⟨b, o, none⟩)) = some (.pointer (some ⟨b, o + 3, none⟩)) := by kernel_rfl
theorem fz132_3 (b : Nat) : cfa Try.prog 132 3 (.pointer (some ⟨b, 0, none⟩)) = some (.pointer (some ⟨b, 3, none⟩)) := by kernel_rfl
theorem sz133 : szOf Try.prog 133 = some 4 := by kernel_rfl
theorem ag133 : aggB Try.prog 133 = some true := by kernel_rfl
theorem ze133 : zeroL Try.prog 133 = some [.pointer none, .pointer none, .pointer none, .string ⟨#[]⟩] := by kernel_rfl
theorem by133 : bytesOf' Try.prog 133 = 40 := by kernel_rfl
theorem fa133_0 (b o : Nat) : cfa Try.prog 133 0 (.pointer (some ⟨b, o, none⟩)) = some (.pointer (some ⟨b, o, none⟩)) := by kernel_rfl
theorem fz133_0 (b : Nat) : cfa Try.prog 133 0 (.pointer (some ⟨b, 0, none⟩)) = some (.pointer (some ⟨b, 0, none⟩)) := by kernel_rfl
theorem fa133_1 (b o : Nat) : cfa Try.prog 133 1 (.pointer (some ⟨b, o, none⟩)) = some (.pointer (some ⟨b, o + 1, none⟩)) := by kernel_rfl
theorem fz133_1 (b : Nat) : cfa Try.prog 133 1 (.pointer (some ⟨b, 0, none⟩)) = some (.pointer (some ⟨b, 1, none⟩)) := by kernel_rfl
theorem fa133_2 (b o : Nat) : cfa Try.prog 133 2 (.pointer (some ⟨b, o, none⟩)) = some (.pointer (some ⟨b, o + 2, none⟩)) := by kernel_rfl
theorem fz133_2 (b : Nat) : cfa Try.prog 133 2 (.pointer (some ⟨b, 0, none⟩)) = some (.pointer (some ⟨b, 2, none⟩)) := by kernel_rfl
theorem fa133_3 (b o : Nat) : cfa Try.prog 133 3 (.pointer (some ⟨b, o, none⟩)) = some (.pointer (some ⟨b, o + 3, none⟩)) := by kernel_rfl
theorem fz133_3 (b : Nat) : cfa Try.prog 133 3 (.pointer (some ⟨b, 0, none⟩)) = some (.pointer (some ⟨b, 3, none⟩)) := by kernel_rfl
theorem sz134 : szOf Try.prog 134 = some 0 := by kernel_rfl
theorem ag134 : aggB Try.prog 134 = some true := by kernel_rfl
theorem ze134 : zeroL Try.prog 134 = some [] := by kernel_rfl
theorem by134 : bytesOf' Try.prog 134 = 0 := by kernel_rfl
theorem sz135 : szOf Try.prog 135 = some 0 := by kernel_rfl
theorem ag135 : aggB Try.prog 135 = some true := by kernel_rfl
theorem ze135 : zeroL Try.prog 135 = some [] := by kernel_rfl
theorem by135 : bytesOf' Try.prog 135 = 0 := by kernel_rfl
theorem sz136 : szOf Try.prog 136 = some 0 := by kernel_rfl
theorem ag136 : aggB Try.prog 136 = some true := by kernel_rfl
theorem ze136 : zeroL Try.prog 136 = some [] := by kernel_rfl
theorem by136 : bytesOf' Try.prog 136 = 0 := by kernel_rfl
theorem sz137 : szOf Try.prog 137 = some 1 := by kernel_rfl
theorem ag137 : aggB Try.prog 137 = some false := by kernel_rfl
theorem ze137 : zeroL Try.prog 137 = some [.int .u32 0] := by kernel_rfl
theorem by137 : bytesOf' Try.prog 137 = 4 := by kernel_rfl
theorem sz138 : szOf Try.prog 138 = some 1 := by kernel_rfl
theorem ag138 : aggB Try.prog 138 = some false := by kernel_rfl
theorem ze138 : zeroL Try.prog 138 = some [.int .u8 0] := by kernel_rfl
theorem by138 : bytesOf' Try.prog 138 = 1 := by kernel_rfl
theorem sz139 : szOf Try.prog 139 = some 1 := by kernel_rfl
theorem ag139 : aggB Try.prog 139 = some false := by kernel_rfl
theorem ze139 : zeroL Try.prog 139 = some [.int .u8 0] := by kernel_rfl
theorem by139 : bytesOf' Try.prog 139 = 1 := by kernel_rfl
theorem sz140 : szOf Try.prog 140 = some 1 := by kernel_rfl
theorem ag140 : aggB Try.prog 140 = some false := by kernel_rfl
theorem ze140 : zeroL Try.prog 140 = some [.nilFunc] := by kernel_rfl
theorem by140 : bytesOf' Try.prog 140 = 8 := by kernel_rfl
theorem sz141 : szOf Try.prog 141 = some 1 := by kernel_rfl
theorem ag141 : aggB Try.prog 141 = some false := by kernel_rfl
theorem ze141 : zeroL Try.prog 141 = some [.pointer none] := by kernel_rfl
theorem by141 : bytesOf' Try.prog 141 = 8 := by kernel_rfl
theorem sz142 : szOf Try.prog 142 = some 1 := by kernel_rfl
theorem ag142 : aggB Try.prog 142 = some false := by kernel_rfl
theorem ze142 : zeroL Try.prog 142 = some [.int .i32 0] := by kernel_rfl
theorem by142 : bytesOf' Try.prog 142 = 4 := by kernel_rfl
theorem sz143 : szOf Try.prog 143 = some 1 := by kernel_rfl
theorem ag143 : aggB Try.prog 143 = some false := by kernel_rfl
theorem ze143 : zeroL Try.prog 143 = some [.int .i32 0] := by kernel_rfl
theorem by143 : bytesOf' Try.prog 143 = 4 := by kernel_rfl
theorem sz144 : szOf Try.prog 144 = some 11 := by kernel_rfl
theorem ag144 : aggB Try.prog 144 = some true := by kernel_rfl
theorem ze144 : zeroL Try.prog 144 = some [.int .u64 0, .int .u64 0, .int .u32 0, .int .u8 0, .int .u8 0, .int .u8 0, .int .u8 0, .nilFunc, .pointer none, .int .i32 0, .int .i32 0] := by kernel_rfl
theorem by144 : bytesOf' Try.prog 144 = 48 := by kernel_rfl
theorem fa144_0 (b o : Nat) : cfa Try.prog 144 0 (.pointer (some ⟨b, o, none⟩)) = some (.pointer (some ⟨b, o, none⟩)) := by kernel_rfl
theorem fz144_0 (b : Nat) : cfa Try.prog 144 0 (.pointer (some ⟨b, 0, none⟩)) = some (.pointer (some ⟨b, 0, none⟩)) := by kernel_rfl
theorem fa144_1 (b o : Nat) : cfa Try.prog 144 1 (.pointer (some ⟨b, o, none⟩)) = some (.pointer (some ⟨b, o + 1, none⟩)) := by kernel_rfl
theorem fz144_1 (b : Nat) : cfa Try.prog 144 1 (.pointer (some ⟨b, 0, none⟩)) = some (.pointer (some ⟨b, 1, none⟩)) := by kernel_rfl
theorem fa144_2 (b o : Nat) : cfa Try.prog 144 2 (.pointer (some ⟨b, o, none⟩)) = some (.pointer (some ⟨b, o + 2, none⟩)) := by kernel_rfl
theorem fz144_2 (b : Nat) : cfa Try.prog 144 2 (.pointer (some ⟨b, 0, none⟩)) = some (.pointer (some ⟨b, 2, none⟩)) := by kernel_rfl
theorem fa144_3 (b o : Nat) : cfa Try.prog 144 3 (.pointer (some ⟨b, o, none⟩)) = some (.pointer (some ⟨b, o + 3, none⟩)) := by kernel_rfl
theorem fz144_3 (b : Nat) : cfa Try.prog 144 3 (.pointer (some ⟨b, 0, none⟩)) = some (.pointer (some ⟨b, 3, none⟩)) := by kernel_rfl
theorem fa144_4 (b o : Nat) : cfa Try.prog 144 4 (.pointer (some ⟨b, o, none⟩)) = some (.pointer (some ⟨b, o + 4, none⟩)) := by kernel_rfl
theorem fz144_4 (b : Nat) : cfa Try.prog 144 4 (.pointer (some ⟨b, 0, none⟩)) = some (.pointer (some ⟨b, 4, none⟩)) := by kernel_rfl
theorem fa144_5 (b o : Nat) : cfa Try.prog 144 5 (.pointer (some ⟨b, o, none⟩)) = some (.pointer (some ⟨b, o + 5, none⟩)) := by kernel_rfl
theorem fz144_5 (b : Nat) : cfa Try.prog 144 5 (.pointer (some ⟨b, 0, none⟩)) = some (.pointer (some ⟨b, 5, none⟩)) := by kernel_rfl
theorem fa144_6 (b o : Nat) : cfa Try.prog 144 6 (.pointer (some ⟨b, o, none⟩)) = some (.pointer (some ⟨b, o + 6, none⟩)) := by kernel_rfl
theorem fz144_6 (b : Nat) : cfa Try.prog 144 6 (.pointer (some ⟨b, 0, none⟩)) = some (.pointer (some ⟨b, 6, none⟩)) := by kernel_rfl
theorem fa144_7 (b o : Nat) : cfa Try.prog 144 7 (.pointer (some ⟨b, o, none⟩)) = some (.pointer (some ⟨b, o + 7, none⟩)) := by kernel_rfl
theorem fz144_7 (b : Nat) : cfa Try.prog 144 7 (.pointer (some ⟨b, 0, none⟩)) = some (.pointer (some ⟨b, 7, none⟩)) := by kernel_rfl
theorem fa144_8 (b o : Nat) : cfa Try.prog 144 8 (.pointer (some ⟨b, o, none⟩)) = some (.pointer (some ⟨b, o + 8, none⟩)) := by kernel_rfl
theorem fz144_8 (b : Nat) : cfa Try.prog 144 8 (.pointer (some ⟨b, 0, none⟩)) = some (.pointer (some ⟨b, 8, none⟩)) := by kernel_rfl
theorem fa144_9 (b o : Nat) : cfa Try.prog 144 9 (.pointer (some ⟨b, o, none⟩)) = some (.pointer (some ⟨b, o + 9, none⟩)) := by kernel_rfl
theorem fz144_9 (b : Nat) : cfa Try.prog 144 9 (.pointer (some ⟨b, 0, none⟩)) = some (.pointer (some ⟨b, 9, none⟩)) := by kernel_rfl
theorem fa144_10 (b o : Nat) : cfa Try.prog 144 10 (.pointer (some ⟨b, o, none⟩)) = some (.pointer (some ⟨b, o + 10, none⟩)) := by kernel_rfl
theorem fz144_10 (b : Nat) : cfa Try.prog 144 10 (.pointer (some ⟨b, 0, none⟩)) = some (.pointer (some ⟨b, 10, none⟩)) := by kernel_rfl
theorem sz145 : szOf Try.prog 145 = some 11 := by kernel_rfl
theorem ag145 : aggB Try.prog 145 = some true := by kernel_rfl
theorem ze145 : zeroL Try.prog 145 = some [.int .u64 0, .int .u64 0, .int .u32 0, .int .u8 0, .int .u8 0, .int .u8 0, .int .u8 0, .nilFunc, .pointer none, .int .i32 0, .int .i32 0] := by kernel_rfl
theorem by145 : bytesOf' Try.prog 145 = 48 := by kernel_rfl
theorem fa145_0 (b o : Nat) : cfa Try.prog 145 0 (.pointer (some ⟨b, o, none⟩)) = some (.pointer (some ⟨b, o, none⟩)) := by kernel_rfl
theorem fz145_0 (b : Nat) : cfa Try.prog 145 0 (.pointer (some ⟨b, 0, none⟩)) = some (.pointer (some ⟨b, 0, none⟩)) := by kernel_rfl
theorem fa145_1 (b o : Nat) : cfa Try.prog 145 1 (.pointer (some ⟨b, o, none⟩)) = some (.pointer (some ⟨b, o + 1, none⟩)) := by kernel_rfl
theorem fz145_1 (b : Nat) : cfa Try.prog 145 1 (.pointer (some ⟨b, 0, none⟩)) = some (.pointer (some ⟨b, 1, none⟩)) := by kernel_rfl
theorem fa145_2 (b o : Nat) : cfa Try.prog 145 2 (.pointer (some ⟨b, o, none⟩)) = some (.pointer (some ⟨b, o + 2, none⟩)) := by kernel_rfl
theorem fz145_2 (b : Nat) : cfa Try.prog 145 2 (.pointer (some ⟨b, 0, none⟩)) = some (.pointer (some ⟨b, 2, none⟩)) := by kernel_rfl
theorem fa145_3 (b o : Nat) : cfa Try.prog 145 3 (.pointer (some ⟨b, o, none⟩)) = some (.pointer (some ⟨b, o + 3, none⟩)) := by kernel_rfl
theorem fz145_3 (b : Nat) : cfa Try.prog 145 3 (.pointer (some ⟨b, 0, none⟩)) = some (.pointer (some ⟨b, 3, none⟩)) := by kernel_rfl
theorem fa145_4 (b o : Nat) : cfa Try.prog 145 4 (.pointer (some ⟨b, o, none⟩)) = some (.pointer (some ⟨b, o + 4, none⟩)) := by kernel_rfl
theorem fz145_4 (b : Nat) : cfa Try.prog 145 4 (.pointer (some ⟨b, 0, none⟩)) = some (.pointer (some ⟨b, 4, none⟩)) := by kernel_rfl
theorem fa145_5 (b o : Nat) : cfa Try.prog 145 5 (.pointer (some ⟨b, o, none⟩)) = some (.pointer (some ⟨b, o + 5, none⟩)) := by kernel_rfl
theorem fz145_5 (b : Nat) : cfa Try.prog 145 5 (.pointer (some ⟨b, 0, none⟩)) = some (.pointer (some ⟨b, 5, none⟩)) := by kernel_rfl
theorem fa145_6 (b o : Nat) : cfa Try.prog 145 6 (.pointer (some ⟨b, o, none⟩)) = some (.pointer (some ⟨b, o + 6, none⟩)) := by kernel_rfl
theorem fz145_6 (b : Nat) : cfa Try.prog 145 6 (.pointer (some ⟨b, 0, none⟩)) = some (.pointer (some ⟨b, 6, none⟩)) := by kernel_rfl
theorem fa145_7 (b o : Nat) : cfa Try.prog 145 7 (.pointer (some ⟨b, o, none⟩)) = some (.pointer (some ⟨b, o + 7, none⟩)) := by kernel_rfl
theorem fz145_7 (b : Nat) : cfa Try.prog 145 7 (.pointer (some ⟨b, 0, none⟩)) = some (.pointer (some ⟨b, 7, none⟩)) := by kernel_rfl
theorem fa145_8 (b o : Nat) : cfa Try.prog 145 8 (.pointer (some ⟨b, o, none⟩)) = some (.pointer (some ⟨b, o + 8, none⟩)) := by kernel_rfl
theorem fz145_8 (b : Nat) : cfa Try.prog 145 8 (.pointer (some ⟨b, 0, none⟩)) = some (.pointer (some ⟨b, 8, none⟩)) := by kernel_rfl
theorem fa145_9 (b o : Nat) : cfa Try.prog 145 9 (.pointer (some ⟨b, o, none⟩)) = some (.pointer (some ⟨b, o + 9, none⟩)) := by kernel_rfl
theorem fz145_9 (b : Nat) : cfa Try.prog 145 9 (.pointer (some ⟨b, 0, none⟩)) = some (.pointer (some ⟨b, 9, none⟩)) := by kernel_rfl
theorem fa145_10 (b o : Nat) : cfa Try.prog 145 10 (.pointer (some ⟨b, o, none⟩)) = some (.pointer (some ⟨b, o + 10, none⟩)) := by kernel_rfl
theorem fz145_10 (b : Nat) : cfa Try.prog 145 10 (.pointer (some ⟨b, 0, none⟩)) = some (.pointer (some ⟨b, 10, none⟩)) := by kernel_rfl
end Go.Proofs.Ytbgfkbdcpfngaaa.B
