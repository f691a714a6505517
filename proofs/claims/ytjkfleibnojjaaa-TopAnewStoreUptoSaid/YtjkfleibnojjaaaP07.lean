/- Part 7 of 23 of the proof that the law TopAnewStore returns true and leaves its argument as it read before, for every input that the bounded statement admits (what it reads is of bulk at most 1048576). -/
import Derived.Test.YtjkfleibnojjaaaProg
import Derived.KernelRfl
import Derived.Test.YtjkfleibnojjaaaP04
open Go Go.Proofs Go.Proofs.Ytjkfleibnojjaaa
set_option maxRecDepth 100000
namespace Go.Proofs.Ytjkfleibnojjaaa.T
theorem mixed : Try.prog.follows .mixedOrders = true := by kernel_rfl
theorem sz1 : szOf Try.prog 1 = some 1 := by kernel_rfl
theorem ag1 : aggB Try.prog 1 = some false := by kernel_rfl
theorem ze1 : zeroL Try.prog 1 = some [.nilFunc] := by kernel_rfl
theorem by1 : bytesOf' Try.prog 1 = 8 := by kernel_rfl
theorem sz2 : szOf Try.prog 2 = some 1 := by kernel_rfl
theorem ag2 : aggB Try.prog 2 = some false := by kernel_rfl
theorem ze2 : zeroL Try.prog 2 = some [.int .i64 0] := by kernel_rfl
theorem by2 : bytesOf' Try.prog 2 = 8 := by kernel_rfl
theorem sz3 : szOf Try.prog 3 = some 1 := by kernel_rfl
theorem ag3 : aggB Try.prog 3 = some false := by kernel_rfl
theorem ze3 : zeroL Try.prog 3 = some [.int .i64 0] := by kernel_rfl
theorem by3 : bytesOf' Try.prog 3 = 8 := by kernel_rfl
theorem sz4 : szOf Try.prog 4 = some 1 := by kernel_rfl
theorem ag4 : aggB Try.prog 4 = some false := by kernel_rfl
theorem ze4 : zeroL Try.prog 4 = some [.bool false] := by kernel_rfl
theorem by4 : bytesOf' Try.prog 4 = 1 := by kernel_rfl
theorem sz5 : szOf Try.prog 5 = some 1 := by kernel_rfl
theorem ag5 : aggB Try.prog 5 = some false := by kernel_rfl
theorem ze5 : zeroL Try.prog 5 = some [.int .u8 0] := by kernel_rfl
theorem by5 : bytesOf' Try.prog 5 = 1 := by kernel_rfl
theorem sz6 : szOf Try.prog 6 = some 1 := by kernel_rfl
theorem ag6 : aggB Try.prog 6 = some false := by kernel_rfl
theorem ze6 : zeroL Try.prog 6 = some [.int .u8 0] := by kernel_rfl
theorem by6 : bytesOf' Try.prog 6 = 1 := by kernel_rfl
theorem sz7 : szOf Try.prog 7 = some 4 := by kernel_rfl
theorem ag7 : aggB Try.prog 7 = some true := by kernel_rfl
theorem ze7 : zeroL Try.prog 7 = some [.int .i64 0, .int .i64 0, .bool false, .int .u8 0] := by kernel_rfl
theorem by7 : bytesOf' Try.prog 7 = 24 := by kernel_rfl
theorem fa7_0 (b o : Nat) : cfa Try.prog 7 0 (.pointer (some ⟨b, o, none⟩)) = some (.pointer (some ⟨b, o, none⟩)) := by kernel_rfl
theorem fz7_0 (b : Nat) : cfa Try.prog 7 0 (.pointer (some ⟨b, 0, none⟩)) = some (.pointer (some ⟨b, 0, none⟩)) := by kernel_rfl
theorem fa7_1 (b o : Nat) : cfa Try.prog 7 1 (.pointer (some ⟨b, o, none⟩)) = some (.pointer (some ⟨b, o + 1, none⟩)) := by kernel_rfl
theorem fz7_1 (b : Nat) : cfa Try.prog 7 1 (.pointer (some ⟨b, 0, none⟩)) = some (.pointer (some ⟨b, 1, none⟩)) := by kernel_rfl
theorem fa7_2 (b o : Nat) : cfa Try.prog 7 2 (.pointer (some ⟨b, o, none⟩)) = some (.pointer (some ⟨b, o + 2, none⟩)) := by kernel_rfl
theorem fz7_2 (b : Nat) : cfa Try.prog 7 2 (.pointer (some ⟨b, 0, none⟩)) = some (.pointer (some ⟨b, 2, none⟩)) := by kernel_rfl
theorem fa7_3 (b o : Nat) : cfa Try.prog 7 3 (.pointer (some ⟨b, o, none⟩)) = some (.pointer (some ⟨b, o + 3, none⟩)) := by kernel_rfl
theorem fz7_3 (b : Nat) : cfa Try.prog 7 3 (.pointer (some ⟨b, 0, none⟩)) = some (.pointer (some ⟨b, 3, none⟩)) := by kernel_rfl
theorem sz8 : szOf Try.prog 8 = some 4 := by kernel_rfl
theorem ag8 : aggB Try.prog 8 = some true := by kernel_rfl
theorem ze8 : zeroL Try.prog 8 = some [.int .i64 0, .int .i64 0, .bool false, .int .u8 0] := by kernel_rfl
theorem by8 : bytesOf' Try.prog 8 = 24 := by kernel_rfl
theorem fa8_0 (b o : Nat) : cfa Try.prog 8 0 (.pointer (some ⟨b, o, none⟩)) = some (.pointer (some ⟨b, o, none⟩)) := by kernel_rfl
theorem fz8_0 (b : Nat) : cfa Try.prog 8 0 (.pointer (some ⟨b, 0, none⟩)) = some (.pointer (some ⟨b, 0, none⟩)) := by kernel_rfl
theorem fa8_1 (b o : Nat) : cfa Try.prog 8 1 (.pointer (some ⟨b, o, none⟩)) = some (.pointer (some ⟨b, o + 1, none⟩)) := by kernel_rfl
theorem fz8_1 (b : Nat) : cfa Try.prog 8 1 (.pointer (some ⟨b, 0, none⟩)) = some (.pointer (some ⟨b, 1, none⟩)) := by kernel_rfl
theorem fa8_2 (b o : Nat) : cfa Try.prog 8 2 (.pointer (some ⟨b, o, none⟩)) = some (.pointer (some ⟨b, o + 2, none⟩)) := by kernel_rfl
theorem fz8_2 (b : Nat) : cfa Try.prog 8 2 (.pointer (some ⟨b, 0, none⟩)) = some (.pointer (some ⟨b, 2, none⟩)) := by kernel_rfl
theorem fa8_3 (b o : Nat) : cfa Try.prog 8 3 (.pointer (some ⟨b, o, none⟩)) = some (.pointer (some ⟨b, o + 3, none⟩)) := by kernel_rfl
theorem fz8_3 (b : Nat) : cfa Try.prog 8 3 (.pointer (some ⟨b, 0, none⟩)) = some (.pointer (some ⟨b, 3, none⟩)) := by kernel_rfl
theorem sz9 : szOf Try.prog 9 = some 1 := by kernel_rfl
theorem ag9 : aggB Try.prog 9 = some false := by kernel_rfl
theorem ze9 : zeroL Try.prog 9 = some [.string ⟨#[]⟩] := by kernel_rfl
theorem by9 : bytesOf' Try.prog 9 = 16 := by kernel_rfl
theorem sz10 : szOf Try.prog 10 = some 1 := by kernel_rfl
theorem ag10 : aggB Try.prog 10 = some false := by kernel_rfl
theorem ze10 : zeroL Try.prog 10 = some [.string ⟨#[]⟩] := by kernel_rfl
theorem by10 : bytesOf' Try.prog 10 = 16 := by kernel_rfl
theorem sz11 : szOf Try.prog 11 = some 1 := by kernel_rfl
theorem ag11 : aggB Try.prog 11 = some false := by kernel_rfl
theorem ze11 : zeroL Try.prog 11 = some [.string ⟨#[]⟩] := by kernel_rfl
theorem by11 : bytesOf' Try.prog 11 = 16 := by kernel_rfl
theorem sz12 : szOf Try.prog 12 = some 1 := by kernel_rfl
theorem ag12 : aggB Try.prog 12 = some false := by kernel_rfl
theorem ze12 : zeroL Try.prog 12 = some [.int .u64 0] := by kernel_rfl
theorem by12 : bytesOf' Try.prog 12 = 8 := by kernel_rfl
theorem sz13 : szOf Try.prog 13 = some 2 := by kernel_rfl
theorem ag13 : aggB Try.prog 13 = some true := by kernel_rfl
theorem ze13 : zeroL Try.prog 13 = some [.string ⟨#[]⟩, .int .u64 0] := by kernel_rfl
theorem by13 : bytesOf' Try.prog 13 = 24 := by kernel_rfl
theorem fa13_0 (b o : Nat) : cfa Try.prog 13 0 (.pointer (some ⟨b, o, none⟩)) = some (.pointer (some ⟨b, o, none⟩)) := by kernel_rfl
theorem fz13_0 (b : Nat) : cfa Try.prog 13 0 (.pointer (some ⟨b, 0, none⟩)) = some (.pointer (some ⟨b, 0, none⟩)) := by kernel_rfl
theorem fa13_1 (b o : Nat) : cfa Try.prog 13 1 (.pointer (some ⟨b, o, none⟩)) = some (.pointer (some ⟨b, o + 1, none⟩)) := by kernel_rfl
theorem fz13_1 (b : Nat) : cfa Try.prog 13 1 (.pointer (some ⟨b, 0, none⟩)) = some (.pointer (some ⟨b, 1, none⟩)) := by kernel_rfl
theorem sz14 : szOf Try.prog 14 = some 2 := by kernel_rfl
theorem ag14 : aggB Try.prog 14 = some true := by kernel_rfl
theorem ze14 : zeroL Try.prog 14 = some [.string ⟨#[]⟩, .int .u64 0] := by kernel_rfl
theorem by14 : bytesOf' Try.prog 14 = 24 := by kernel_rfl
theorem fa14_0 (b o : Nat) : cfa Try.prog 14 0 (.pointer (some ⟨b, o, none⟩)) = some (.pointer (some ⟨b, o, none⟩)) := by kernel_rfl
theorem fz14_0 (b : Nat) : cfa Try.prog 14 0 (.pointer (some ⟨b, 0, none⟩)) = some (.pointer (some ⟨b, 0, none⟩)) := by kernel_rfl
theorem fa14_1 (b o : Nat) : cfa Try.prog 14 1 (.pointer (some ⟨b, o, none⟩)) = some (.pointer (some ⟨b, o + 1, none⟩)) := by kernel_rfl
theorem fz14_1 (b : Nat) : cfa Try.prog 14 1 (.pointer (some ⟨b, 0, none⟩)) = some (.pointer (some ⟨b, 1, none⟩)) := by kernel_rfl
theorem sz15 : szOf Try.prog 15 = some 1 := by kernel_rfl
theorem ag15 : aggB Try.prog 15 = some false := by kernel_rfl
theorem ze15 : zeroL Try.prog 15 = some [.pointer none] := by kernel_rfl
theorem by15 : bytesOf' Try.prog 15 = 8 := by kernel_rfl
theorem sz16 : szOf Try.prog 16 = some 1 := by kernel_rfl
theorem ag16 : aggB Try.prog 16 = some false := by kernel_rfl
theorem ze16 : zeroL Try.prog 16 = some [.pointer none] := by kernel_rfl
theorem by16 : bytesOf' Try.prog 16 = 8 := by kernel_rfl
theorem sz17 : szOf Try.prog 17 = some 1 := by kernel_rfl
theorem ag17 : aggB Try.prog 17 = some false := by kernel_rfl
theorem ze17 : zeroL Try.prog 17 = some [.pointer none] := by kernel_rfl
theorem by17 : bytesOf' Try.prog 17 = 8 := by kernel_rfl
theorem sz18 : szOf Try.prog 18 = some 1 := by kernel_rfl
theorem ag18 : aggB Try.prog 18 = some true := by kernel_rfl
theorem ze18 : zeroL Try.prog 18 = some [.pointer none] := by kernel_rfl
theorem by18 : bytesOf' Try.prog 18 = 8 := by kernel_rfl
theorem fa18_0 (b o : Nat) : cfa Try.prog 18 0 (.pointer (some ⟨b, o, none⟩)) = some (.pointer (some ⟨b, o, none⟩)) := by kernel_rfl
theorem fz18_0 (b : Nat) : cfa Try.prog 18 0 (.pointer (some ⟨b, 0, none⟩)) = some (.pointer (some ⟨b, 0, none⟩)) := by kernel_rfl
theorem sz19 : szOf Try.prog 19 = some 1 := by kernel_rfl
theorem ag19 : aggB Try.prog 19 = some true := by kernel_rfl
theorem ze19 : zeroL Try.prog 19 = some [.pointer none] := by kernel_rfl
theorem by19 : bytesOf' Try.prog 19 = 8 := by kernel_rfl
theorem fa19_0 (b o : Nat) : cfa Try.prog 19 0 (.pointer (some ⟨b, o, none⟩)) = some (.pointer (some ⟨b, o, none⟩)) := by kernel_rfl
theorem fz19_0 (b : Nat) : cfa Try.prog 19 0 (.pointer (some ⟨b, 0, none⟩)) = some (.pointer (some ⟨b, 0, none⟩)) := by kernel_rfl
theorem sz20 : szOf Try.prog 20 = some 1 := by kernel_rfl
theorem ag20 : aggB Try.prog 20 = some false := by kernel_rfl
theorem ze20 : zeroL Try.prog 20 = some [.nilIface] := by kernel_rfl
theorem by20 : bytesOf' Try.prog 20 = 16 := by kernel_rfl
theorem sz21 : szOf Try.prog 21 = some 1 := by kernel_rfl
theorem ag21 : aggB Try.prog 21 = some false := by kernel_rfl
theorem ze21 : zeroL Try.prog 21 = some [.int .i32 0] := by kernel_rfl
theorem by21 : bytesOf' Try.prog 21 = 4 := by kernel_rfl
theorem sz22 : szOf Try.prog 22 = some 4 := by kernel_rfl
theorem ag22 : aggB Try.prog 22 = some true := by kernel_rfl
theorem ze22 : zeroL Try.prog 22 = some [.int .i64 0, .int .i64 0, .int .i64 0, .int .i64 0] := by kernel_rfl
theorem by22 : bytesOf' Try.prog 22 = 32 := by kernel_rfl
theorem fa22_0 (b o : Nat) : cfa Try.prog 22 0 (.pointer (some ⟨b, o, none⟩)) = some (.pointer (some ⟨b, o, none⟩)) := by kernel_rfl
theorem fz22_0 (b : Nat) : cfa Try.prog 22 0 (.pointer (some ⟨b, 0, none⟩)) = some (.pointer (some ⟨b, 0, none⟩)) := by kernel_rfl
theorem fa22_1 (b o : Nat) : cfa Try.prog 22 1 (.pointer (some ⟨b, o, none⟩)) = some (.pointer (some ⟨b, o + 1, none⟩)) := by kernel_rfl
theorem fz22_1 (b : Nat) : cfa Try.prog 22 1 (.pointer (some ⟨b, 0, none⟩)) = some (.pointer (some ⟨b, 1, none⟩)) := by kernel_rfl
theorem fa22_2 (b o : Nat) : cfa Try.prog 22 2 (.pointer (some ⟨b, o, none⟩)) = some (.pointer (some ⟨b, o + 2, none⟩)) := by kernel_rfl
theorem fz22_2 (b : Nat) : cfa Try.prog 22 2 (.pointer (some ⟨b, 0, none⟩)) = some (.pointer (some ⟨b, 2, none⟩)) := by kernel_rfl
theorem fa22_3 (b o : Nat) : cfa Try.prog 22 3 (.pointer (some ⟨b, o, none⟩)) = some (.pointer (some ⟨b, o + 3, none⟩)) := by kernel_rfl
theorem fz22_3 (b : Nat) : cfa Try.prog 22 3 (.pointer (some ⟨b, 0, none⟩)) = some (.pointer (some ⟨b, 3, none⟩)) := by kernel_rfl
theorem sz23 : szOf Try.prog 23 = some 4 := by kernel_rfl
theorem ag23 : aggB Try.prog 23 = some true := by kernel_rfl
theorem ze23 : zeroL Try.prog 23 = some [.int .i64 0, .int .i64 0, .int .i64 0, .int .i64 0] := by kernel_rfl
theorem by23 : bytesOf' Try.prog 23 = 32 := by kernel_rfl
theorem fa23_0 (b o : Nat) : cfa Try.prog 23 0 (.pointer (some ⟨b, o, none⟩)) = some (.pointer (some ⟨b, o, none⟩)) := by kernel_rfl
theorem fz23_0 (b : Nat) : cfa Try.prog 23 0 (.pointer (some ⟨b, 0, none⟩)) = some (.pointer (some ⟨b, 0, none⟩)) := by kernel_rfl
theorem fa23_1 (b o : Nat) : cfa Try.prog 23 1 (.pointer (some ⟨b, o, none⟩)) = some (.pointer (some ⟨b, o + 1, none⟩)) := by kernel_rfl
theorem fz23_1 (b : Nat) : cfa Try.prog 23 1 (.pointer (some ⟨b, 0, none⟩)) = some (.pointer (some ⟨b, 1, none⟩)) := by kernel_rfl
theorem fa23_2 (b o : Nat) : cfa Try.prog 23 2 (.pointer (some ⟨b, o, none⟩)) = some (.pointer (some ⟨b, o + 2, none⟩)) := by kernel_rfl
theorem fz23_2 (b : Nat) : cfa Try.prog 23 2 (.pointer (some ⟨b, 0, none⟩)) = some (.pointer (some ⟨b, 2, none⟩)) := by kernel_rfl
theorem fa23_3 (b o : Nat) : cfa Try.prog 23 3 (.pointer (some ⟨b, o, none⟩)) = some (.pointer (some ⟨b, o + 3, none⟩)) := by kernel_rfl
theorem fz23_3 (b : Nat) : cfa Try.prog 23 3 (.pointer (some ⟨b, 0, none⟩)) = some (.pointer (some ⟨b, 3, none⟩)) := by kernel_rfl
theorem sz24 : szOf Try.prog 24 = some 1 := by kernel_rfl
theorem ag24 : aggB Try.prog 24 = some false := by kernel_rfl
theorem ze24 : zeroL Try.prog 24 = some [.slice none 0 0] := by kernel_rfl
theorem by24 : bytesOf' Try.prog 24 = 24 := by kernel_rfl
theorem ap24 : appArg Try.prog 24 = true := by kernel_rfl
theorem sz25 : szOf Try.prog 25 = some 6 := by kernel_rfl
theorem ag25 : aggB Try.prog 25 = some true := by kernel_rfl
theorem ze25 : zeroL Try.prog 25 = some [.int .i64 0, .int .i64 0, .int .i64 0, .int .i64 0, .int .i64 0, .slice none 0 0] := by kernel_rfl
theorem by25 : bytesOf' Try.prog 25 = 64 := by kernel_rfl
theorem fa25_0 (b o : Nat) : cfa Try.prog 25 0 (.pointer (some ⟨b, o, none⟩)) = some (.pointer (some ⟨b, o, none⟩)) := by kernel_rfl
theorem fz25_0 (b : Nat) : cfa Try.prog 25 0 (.pointer (some ⟨b, 0, none⟩)) = some (.pointer (some ⟨b, 0, none⟩)) := by kernel_rfl
theorem fa25_1 (b o : Nat) : cfa Try.prog 25 1 (.pointer (some ⟨b, o, none⟩)) = some (.pointer (some ⟨b, o + 4, none⟩)) := by kernel_rfl
theorem fz25_1 (b : Nat) : cfa Try.prog 25 1 (.pointer (some ⟨b, 0, none⟩)) = some (.pointer (some ⟨b, 4, none⟩)) := by kernel_rfl
theorem fa25_2 (b o : Nat) : cfa Try.prog 25 2 (.pointer (some ⟨b, o, none⟩)) = some (.pointer (some ⟨b, o + 5, none⟩)) := by kernel_rfl
theorem fz25_2 (b : Nat) : cfa Try.prog 25 2 (.pointer (some ⟨b, 0, none⟩)) = some (.pointer (some ⟨b, 5, none⟩)) := by kernel_rfl
theorem sz26 : szOf Try.prog 26 = some 6 := by kernel_rfl
theorem ag26 : aggB Try.prog 26 = some true := by kernel_rfl
theorem ze26 : zeroL Try.prog 26 = some [.int .i64 0, .int .i64 0, .int .i64 0, .int .i64 0, .int .i64 0, .slice none 0 0] := by kernel_rfl
theorem by26 : bytesOf' Try.prog 26 = 64 := by kernel_rfl
theorem fa26_0 (b o : Nat) : cfa Try.prog 26 0 (.pointer (some ⟨b, o, none⟩)) = some (.pointer (some ⟨b, o, none⟩)) := by kernel_rfl
theorem fz26_0 (b : Nat) : cfa Try.prog 26 0 (.pointer (some ⟨b, 0, none⟩)) = some (.pointer (some ⟨b, 0, none⟩)) := by kernel_rfl
theorem fa26_1 (b o : Nat) : cfa Try.prog 26 1 (.pointer (some ⟨b, o, none⟩)) = some (.pointer (some ⟨b, o + 4, none⟩)) := by kernel_rfl
theorem fz26_1 (b : Nat) : cfa Try.prog 26 1 (.pointer (some ⟨b, 0, none⟩)) = some (.pointer (some ⟨b, 4, none⟩)) := by kernel_rfl
theorem fa26_2 (b o : Nat) : cfa Try.prog 26 2 (.pointer (some ⟨b, o, none⟩)) = some (.pointer (some ⟨b, o + 5, none⟩)) := by kernel_rfl
theorem fz26_2 (b : Nat) : cfa Try.prog 26 2 (.pointer (some ⟨b, 0, none⟩)) = some (.pointer (some ⟨b, 5, none⟩)) := by kernel_rfl
theorem sz27 : szOf Try.prog 27 = some 1 := by kernel_rfl
theorem ag27 : aggB Try.prog 27 = some false := by kernel_rfl
theorem ze27 : zeroL Try.prog 27 = some [.slice none 0 0] := by kernel_rfl
theorem by27 : bytesOf' Try.prog 27 = 24 := by kernel_rfl
theorem ap27 : appArg Try.prog 27 = true := by kernel_rfl
theorem sz28 : szOf Try.prog 28 = some 10 := by kernel_rfl
theorem ag28 : aggB Try.prog 28 = some true := by kernel_rfl
theorem ze28 : zeroL Try.prog 28 = some [.int .i64 0, .int .i64 0, .int .i64 0, .int .i64 0, .int .i64 0, .slice none 0 0, .slice none 0 0, .slice none 0 0, .int .i64 0, .int .i64 0] := by kernel_rfl
theorem by28 : bytesOf' Try.prog 28 = 128 := by kernel_rfl
theorem fa28_0 (b o : Nat) : cfa Try.prog 28 0 (.pointer (some ⟨b, o, none⟩)) = some (.pointer (some ⟨b, o, none⟩)) := by kernel_rfl
theorem fz28_0 (b : Nat) : cfa Try.prog 28 0 (.pointer (some ⟨b, 0, none⟩)) = some (.pointer (some ⟨b, 0, none⟩)) := by kernel_rfl
theorem fa28_1 (b o : Nat) : cfa Try.prog 28 1 (.pointer (some ⟨b, o, none⟩)) = some (.pointer (some ⟨b, o + 6, none⟩)) := by kernel_rfl
theorem fz28_1 (b : Nat) : cfa Try.prog 28 1 (.pointer (some ⟨b, 0, none⟩)) = some (.pointer (some ⟨b, 6, none⟩)) := by kernel_rfl
theorem fa28_2 (b o : Nat) : cfa Try.prog 28 2 (.pointer (some ⟨b, o, none⟩)) = some (.pointer (some ⟨b, o + 7, none⟩)) := by kernel_rfl
theorem fz28_2 (b : Nat) : cfa Try.prog 28 2 (.pointer (some ⟨b, 0, none⟩)) = some (.pointer (some ⟨b, 7, none⟩)) := by kernel_rfl
theorem fa28_3 (b o : Nat) : cfa Try.prog 28 3 (.pointer (some ⟨b, o, none⟩)) = some (.pointer (some ⟨b, o + 8, none⟩)) := by kernel_rfl
theorem fz28_3 (b : Nat) : cfa Try.prog 28 3 (.pointer (some ⟨b, 0, none⟩)) = some (.pointer (some ⟨b, 8, none⟩)) := by kernel_rfl
theorem fa28_4 (b o : Nat) : cfa Try.prog 28 4 (.pointer (some ⟨b, o, none⟩)) = some (.pointer (some ⟨b, o + 9, none⟩)) := by kernel_rfl
theorem fz28_4 (b : Nat) : cfa Try.prog 28 4 (.pointer (some ⟨b, 0, none⟩)) = some (.pointer (some ⟨b, 9, none⟩)) := by kernel_rfl
theorem sz29 : szOf Try.prog 29 = some 10 := by kernel_rfl
theorem ag29 : aggB Try.prog 29 = some true := by kernel_rfl
theorem ze29 : zeroL Try.prog 29 = some [.int .i64 0, .int .i64 0, .int .i64 0, .int .i64 0, .int .i64 0, .slice none 0 0, .slice none 0 0, .slice none 0 0, .int .i64 0, .int .i64 0] := by kernel_rfl
theorem by29 : bytesOf' Try.prog 29 = 128 := by kernel_rfl
theorem fa29_0 (b o : Nat) : cfa Try.prog 29 0 (.pointer (some ⟨b, o, none⟩)) = some (.pointer (some ⟨b, o, none⟩)) := by kernel_rfl
theorem fz29_0 (b : Nat) : cfa Try.prog 29 0 (.pointer (some ⟨b, 0, none⟩)) = some (.pointer (some ⟨b, 0, none⟩)) := by kernel_rfl
theorem fa29_1 (b o : Nat) : cfa Try.prog 29 1 (.pointer (some ⟨b, o, none⟩)) = some (.pointer (some ⟨b, o + 6, none⟩)) := by kernel_rfl
theorem fz29_1 (b : Nat) : cfa Try.prog 29 1 (.pointer (some ⟨b, 0, none⟩)) = some (.pointer (some ⟨b, 6, none⟩)) := by kernel_rfl
theorem fa29_2 (b o : Nat) : cfa Try.prog 29 2 (.pointer (some ⟨b, o, none⟩)) = some (.pointer (some ⟨b, o + 7, none⟩)) := by kernel_rfl
theorem fz29_2 (b : Nat) : cfa Try.prog 29 2 (.pointer (some ⟨b, 0, none⟩)) = some (.pointer (some ⟨b, 7, none⟩)) := by kernel_rfl
theorem fa29_3 (b o : Nat) : cfa Try.prog 29 3 (.pointer (some ⟨b, o, none⟩)) = some (.pointer (some ⟨b, o + 8, none⟩)) := by kernel_rfl
theorem fz29_3 (b : Nat) : cfa Try.prog 29 3 (.pointer (some ⟨b, 0, none⟩)) = some (.pointer (some ⟨b, 8, none⟩)) := by kernel_rfl
theorem fa29_4 (b o : Nat) : cfa Try.prog 29 4 (.pointer (some ⟨b, o, none⟩)) = some (.pointer (some ⟨b, o + 9, none⟩)) := by kernel_rfl
theorem fz29_4 (b : Nat) : cfa Try.prog 29 4 (.pointer (some ⟨b, 0, none⟩)) = some (.pointer (some ⟨b, 9, none⟩)) := by kernel_rfl
theorem sz30 : szOf Try.prog 30 = some 1 := by kernel_rfl
theorem ag30 : aggB Try.prog 30 = some false := by kernel_rfl
theorem ze30 : zeroL Try.prog 30 = some [.slice none 0 0] := by kernel_rfl
theorem by30 : bytesOf' Try.prog 30 = 24 := by kernel_rfl
theorem ap30 : appArg Try.prog 30 = true := by kernel_rfl
theorem sz31 : szOf Try.prog 31 = some 2 := by kernel_rfl
theorem ag31 : aggB Try.prog 31 = some true := by kernel_rfl
theorem ze31 : zeroL Try.prog 31 = some [.slice none 0 0, .slice none 0 0] := by kernel_rfl
theorem by31 : bytesOf' Try.prog 31 = 48 := by kernel_rfl
theorem fa31_0 (b o : Nat) : cfa Try.prog 31 0 (.pointer (some ⟨b, o, none⟩)) = some (.pointer (some ⟨b, o, none⟩)) := by kernel_rfl
theorem fz31_0 (b : Nat) : cfa Try.prog 31 0 (.pointer (some ⟨b, 0, none⟩)) = some (.pointer (some ⟨b, 0, none⟩)) := by kernel_rfl
theorem fa31_1 (b o : Nat) : cfa Try.prog 31 1 (.pointer (some ⟨b, o, none⟩)) = some (.pointer (some ⟨b, o + 1, none⟩)) := by kernel_rfl
theorem fz31_1 (b : Nat) : cfa Try.prog 31 1 (.pointer (some ⟨b, 0, none⟩)) = some (.pointer (some ⟨b, 1, none⟩)) := by kernel_rfl
theorem sz32 : szOf Try.prog 32 = some 2 := by kernel_rfl
theorem ag32 : aggB Try.prog 32 = some true := by kernel_rfl
theorem ze32 : zeroL Try.prog 32 = some [.slice none 0 0, .slice none 0 0] := by kernel_rfl
theorem by32 : bytesOf' Try.prog 32 = 48 := by kernel_rfl
theorem fa32_0 (b o : Nat) : cfa Try.prog 32 0 (.pointer (some ⟨b, o, none⟩)) = some (.pointer (some ⟨b, o, none⟩)) := by kernel_rfl
theorem fz32_0 (b : Nat) : cfa Try.prog 32 0 (.pointer (some ⟨b, 0, none⟩)) = some (.pointer (some ⟨b, 0, none⟩)) := by kernel_rfl
theorem fa32_1 (b o : Nat) : cfa Try.prog 32 1 (.pointer (some ⟨b, o, none⟩)) = some (.pointer (some ⟨b, o + 1, none⟩)) := by kernel_rfl
theorem fz32_1 (b : Nat) : cfa Try.prog 32 1 (.pointer (some ⟨b, 0, none⟩)) = some (.pointer (some ⟨b, 1, none⟩)) := by kernel_rfl
theorem sz33 : szOf Try.prog 33 = some 1 := by kernel_rfl
theorem ag33 : aggB Try.prog 33 = some false := by kernel_rfl
theorem ze33 : zeroL Try.prog 33 = some [.nilFunc] := by kernel_rfl
theorem by33 : bytesOf' Try.prog 33 = 8 := by kernel_rfl
theorem sz34 : szOf Try.prog 34 = some 1 := by kernel_rfl
theorem ag34 : aggB Try.prog 34 = some false := by kernel_rfl
theorem ze34 : zeroL Try.prog 34 = some [.pointer none] := by kernel_rfl
theorem by34 : bytesOf' Try.prog 34 = 8 := by kernel_rfl
theorem sz35 : szOf Try.prog 35 = some 1 := by kernel_rfl
theorem ag35 : aggB Try.prog 35 = some false := by kernel_rfl
theorem ze35 : zeroL Try.prog 35 = some [.nilFunc] := by kernel_rfl
theorem by35 : bytesOf' Try.prog 35 = 8 := by kernel_rfl
theorem sz36 : szOf Try.prog 36 = some 1 := by kernel_rfl
theorem ag36 : aggB Try.prog 36 = some false := by kernel_rfl
theorem ze36 : zeroL Try.prog 36 = some [.int .i64 0] := by kernel_rfl
theorem by36 : bytesOf' Try.prog 36 = 8 := by kernel_rfl
theorem sz38 : szOf Try.prog 38 = some 1 := by kernel_rfl
theorem ag38 : aggB Try.prog 38 = some false := by kernel_rfl
theorem ze38 : zeroL Try.prog 38 = some [.nilFunc] := by kernel_rfl
theorem by38 : bytesOf' Try.prog 38 = 8 := by kernel_rfl
theorem sz39 : szOf Try.prog 39 = some 1 := by kernel_rfl
theorem ag39 : aggB Try.prog 39 = some false := by kernel_rfl
theorem ze39 : zeroL Try.prog 39 = some [.nilFunc] := by kernel_rfl
theorem by39 : bytesOf' Try.prog 39 = 8 := by kernel_rfl
theorem sz40 : szOf Try.prog 40 = some 1 := by kernel_rfl
theorem ag40 : aggB Try.prog 40 = some false := by kernel_rfl
theorem ze40 : zeroL Try.prog 40 = some [.nilFunc] := by kernel_rfl
theorem by40 : bytesOf' Try.prog 40 = 8 := by kernel_rfl
theorem sz41 : szOf Try.prog 41 = some 1 := by kernel_rfl
theorem ag41 : aggB Try.prog 41 = some false := by kernel_rfl
theorem ze41 : zeroL Try.prog 41 = some [.nilFunc] := by kernel_rfl
theorem by41 : bytesOf' Try.prog 41 = 8 := by kernel_rfl
theorem sz42 : szOf Try.prog 42 = some 2 := by kernel_rfl
theorem ag42 : aggB Try.prog 42 = some true := by kernel_rfl
theorem ze42 : zeroL Try.prog 42 = some [.int .i64 0, .int .i64 0] := by kernel_rfl
theorem by42 : bytesOf' Try.prog 42 = 16 := by kernel_rfl
theorem fa42_0 (b o : Nat) : cfa Try.prog 42 0 (.pointer (some ⟨b, o, none⟩)) = some (.pointer (some ⟨b, o, none⟩)) := by kernel_rfl
theorem fz42_0 (b : Nat) : cfa Try.prog 42 0 (.pointer (some ⟨b, 0, none⟩)) = some (.pointer (some ⟨b, 0, none⟩)) := by kernel_rfl
theorem fa42_1 (b o : Nat) : cfa Try.prog 42 1 (.pointer (some ⟨b, o, none⟩)) = some (.pointer (some ⟨b, o + 1, none⟩)) := by kernel_rfl
theorem fz42_1 (b : Nat) : cfa Try.prog 42 1 (.pointer (some ⟨b, 0, none⟩)) = some (.pointer (some ⟨b, 1, none⟩)) := by kernel_rfl
theorem sz43 : szOf Try.prog 43 = some 2 := by kernel_rfl
theorem ag43 : aggB Try.prog 43 = some true := by kernel_rfl
theorem ze43 : zeroL Try.prog 43 = some [.int .i64 0, .int .i64 0] := by kernel_rfl
theorem by43 : bytesOf' Try.prog 43 = 16 := by kernel_rfl
theorem fa43_0 (b o : Nat) : cfa Try.prog 43 0 (.pointer (some ⟨b, o, none⟩)) = some (.pointer (some ⟨b, o, none⟩)) := by kernel_rfl
theorem fz43_0 (b : Nat) : cfa Try.prog 43 0 (.pointer (some ⟨b, 0, none⟩)) = some (.pointer (some ⟨b, 0, none⟩)) := by kernel_rfl
theorem fa43_1 (b o : Nat) : cfa Try.prog 43 1 (.pointer (some ⟨b, o, none⟩)) = some (.pointer (some ⟨b, o + 1, none⟩)) := by kernel_rfl
theorem fz43_1 (b : Nat) : cfa Try.prog 43 1 (.pointer (some ⟨b, 0, none⟩)) = some (.pointer (some ⟨b, 1, none⟩)) := by kernel_rfl
theorem sz45 : szOf Try.prog 45 = some 1 := by kernel_rfl
theorem ag45 : aggB Try.prog 45 = some false := by kernel_rfl
theorem ze45 : zeroL Try.prog 45 = some [.nilFunc] := by kernel_rfl
theorem by45 : bytesOf' Try.prog 45 = 8 := by kernel_rfl
theorem sz46 : szOf Try.prog 46 = some 1 := by kernel_rfl
theorem ag46 : aggB Try.prog 46 = some false := by kernel_rfl
theorem ze46 : zeroL Try.prog 46 = some [.nilFunc] := by kernel_rfl
theorem by46 : bytesOf' Try.prog 46 = 8 := by kernel_rfl
theorem sz47 : szOf Try.prog 47 = some 1 := by kernel_rfl
theorem ag47 : aggB Try.prog 47 = some false := by kernel_rfl
theorem ze47 : zeroL Try.prog 47 = some [.nilFunc] := by kernel_rfl
theorem by47 : bytesOf' Try.prog 47 = 8 := by kernel_rfl
theorem sz49 : szOf Try.prog 49 = some 1 := by kernel_rfl
theorem ag49 : aggB Try.prog 49 = some false := by kernel_rfl
theorem ze49 : zeroL Try.prog 49 = some [.nilFunc] := by kernel_rfl
theorem by49 : bytesOf' Try.prog 49 = 8 := by kernel_rfl
theorem sz50 : szOf Try.prog 50 = some 1 := by kernel_rfl
theorem ag50 : aggB Try.prog 50 = some false := by kernel_rfl
theorem ze50 : zeroL Try.prog 50 = some [.nilFunc] := by kernel_rfl
theorem by50 : bytesOf' Try.prog 50 = 8 := by kernel_rfl
theorem sz51 : szOf Try.prog 51 = some 1 := by kernel_rfl
theorem ag51 : aggB Try.prog 51 = some false := by kernel_rfl
theorem ze51 : zeroL Try.prog 51 = some [.nilFunc] := by kernel_rfl
theorem by51 : bytesOf' Try.prog 51 = 8 := by kernel_rfl
theorem sz52 : szOf Try.prog 52 = some 1 := by kernel_rfl
theorem ag52 : aggB Try.prog 52 = some false := by kernel_rfl
theorem ze52 : zeroL Try.prog 52 = some [.pointer none] := by kernel_rfl
theorem by52 : bytesOf' Try.prog 52 = 8 := by kernel_rfl
theorem sz54 : szOf Try.prog 54 = some 1 := by kernel_rfl
theorem ag54 : aggB Try.prog 54 = some false := by kernel_rfl
theorem ze54 : zeroL Try.prog 54 = some [.nilFunc] := by kernel_rfl
theorem by54 : bytesOf' Try.prog 54 = 8 := by kernel_rfl
theorem sz55 : szOf Try.prog 55 = some 1 := by kernel_rfl
theorem ag55 : aggB Try.prog 55 = some false := by kernel_rfl
theorem ze55 : zeroL Try.prog 55 = some [.nilFunc] := by kernel_rfl
theorem by55 : bytesOf' Try.prog 55 = 8 := by kernel_rfl
theorem sz57 : szOf Try.prog 57 = some 1 := by kernel_rfl
theorem ag57 : aggB Try.prog 57 = some false := by kernel_rfl
theorem ze57 : zeroL Try.prog 57 = some [.nilFunc] := by kernel_rfl
theorem by57 : bytesOf' Try.prog 57 = 8 := by kernel_rfl
theorem sz58 : szOf Try.prog 58 = some 1 := by kernel_rfl
theorem ag58 : aggB Try.prog 58 = some false := by kernel_rfl
theorem ze58 : zeroL Try.prog 58 = some [.nilFunc] := by kernel_rfl
theorem by58 : bytesOf' Try.prog 58 = 8 := by kernel_rfl
theorem sz59 : szOf Try.prog 59 = some 1 := by kernel_rfl
theorem ag59 : aggB Try.prog 59 = some false := by kernel_rfl
theorem ze59 : zeroL Try.prog 59 = some [.nilFunc] := by kernel_rfl
theorem by59 : bytesOf' Try.prog 59 = 8 := by kernel_rfl
theorem sz60 : szOf Try.prog 60 = some 1 := by kernel_rfl
theorem ag60 : aggB Try.prog 60 = some false := by kernel_rfl
theorem ze60 : zeroL Try.prog 60 = some [.nilFunc] := by kernel_rfl
theorem by60 : bytesOf' Try.prog 60 = 8 := by kernel_rfl
theorem sz61 : szOf Try.prog 61 = some 1 := by kernel_rfl
theorem ag61 : aggB Try.prog 61 = some false := by kernel_rfl
theorem ze61 : zeroL Try.prog 61 = some [.nilFunc] := by kernel_rfl
theorem by61 : bytesOf' Try.prog 61 = 8 := by kernel_rfl
theorem sz62 : szOf Try.prog 62 = some 1 := by kernel_rfl
theorem ag62 : aggB Try.prog 62 = some false := by kernel_rfl
theorem ze62 : zeroL Try.prog 62 = some [.nilFunc] := by kernel_rfl
theorem by62 : bytesOf' Try.prog 62 = 8 := by kernel_rfl
theorem sz63 : szOf Try.prog 63 = some 1 := by kernel_rfl
theorem ag63 : aggB Try.prog 63 = some false := by kernel_rfl
theorem ze63 : zeroL Try.prog 63 = some [.nilFunc] := by kernel_rfl
theorem by63 : bytesOf' Try.prog 63 = 8 := by kernel_rfl
theorem sz64 : szOf Try.prog 64 = some 1 := by kernel_rfl
theorem ag64 : aggB Try.prog 64 = some false := by kernel_rfl
theorem ze64 : zeroL Try.prog 64 = some [.slice none 0 0] := by kernel_rfl
theorem by64 : bytesOf' Try.prog 64 = 24 := by kernel_rfl
theorem ap64 : appArg Try.prog 64 = true := by kernel_rfl
theorem sz65 : szOf Try.prog 65 = some 3 := by kernel_rfl
theorem ag65 : aggB Try.prog 65 = some true := by kernel_rfl
theorem ze65 : zeroL Try.prog 65 = some [.string ⟨#[]⟩, .int .i64 0, .slice none 0 0] := by kernel_rfl
theorem by65 : bytesOf' Try.prog 65 = 48 := by kernel_rfl
theorem fa65_0 (b o : Nat) : cfa Try.prog 65 0 (.pointer (some ⟨b, o, none⟩)) = some (.pointer (some ⟨b, o, none⟩)) := by kernel_rfl
theorem fz65_0 (b : Nat) : cfa Try.prog 65 0 (.pointer (some ⟨b, 0, none⟩)) = some (.pointer (some ⟨b, 0, none⟩)) := by kernel_rfl
theorem fa65_1 (b o : Nat) : cfa Try.prog 65 1 (.pointer (some ⟨b, o, none⟩)) = some (.pointer (some ⟨b, o + 1, none⟩)) := by kernel_rfl
theorem fz65_1 (b : Nat) : cfa Try.prog 65 1 (.pointer (some ⟨b, 0, none⟩)) = some (.pointer (some ⟨b, 1, none⟩)) := by kernel_rfl
theorem fa65_2 (b o : Nat) : cfa Try.prog 65 2 (.pointer (some ⟨b, o, none⟩)) = some (.pointer (some ⟨b, o + 2, none⟩)) := by kernel_rfl
theorem fz65_2 (b : Nat) : cfa Try.prog 65 2 (.pointer (some ⟨b, 0, none⟩)) = some (.pointer (some ⟨b, 2, none⟩)) := by kernel_rfl
theorem sz66 : szOf Try.prog 66 = some 3 := by kernel_rfl
theorem ag66 : aggB Try.prog 66 = some true := by kernel_rfl
theorem ze66 : zeroL Try.prog 66 = some [.string ⟨#[]⟩, .int .i64 0, .slice none 0 0] := by kernel_rfl
theorem by66 : bytesOf' Try.prog 66 = 48 := by kernel_rfl
theorem fa66_0 (b o : Nat) : cfa Try.prog 66 0 (.pointer (some ⟨b, o, none⟩)) = some (.pointer (some ⟨b, o, none⟩)) := by kernel_rfl
theorem fz66_0 (b : Nat) : cfa Try.prog 66 0 (.pointer (some ⟨b, 0, none⟩)) = some (.pointer (some ⟨b, 0, none⟩)) := by kernel_rfl
theorem fa66_1 (b o : Nat) : cfa Try.prog 66 1 (.pointer (some ⟨b, o, none⟩)) = some (.pointer (some ⟨b, o + 1, none⟩)) := by kernel_rfl
theorem fz66_1 (b : Nat) : cfa Try.prog 66 1 (.pointer (some ⟨b, 0, none⟩)) = some (.pointer (some ⟨b, 1, none⟩)) := by kernel_rfl
theorem fa66_2 (b o : Nat) : cfa Try.prog 66 2 (.pointer (some ⟨b, o, none⟩)) = some (.pointer (some ⟨b, o + 2, none⟩)) := by kernel_rfl
theorem fz66_2 (b : Nat) : cfa Try.prog 66 2 (.pointer (some ⟨b, 0, none⟩)) = some (.pointer (some ⟨b, 2, none⟩)) := by kernel_rfl
theorem sz67 : szOf Try.prog 67 = some 1 := by kernel_rfl
theorem ag67 : aggB Try.prog 67 = some false := by kernel_rfl
theorem ze67 : zeroL Try.prog 67 = some [.nilFunc] := by kernel_rfl
theorem by67 : bytesOf' Try.prog 67 = 8 := by kernel_rfl
theorem sz68 : szOf Try.prog 68 = some 1 := by kernel_rfl
theorem ag68 : aggB Try.prog 68 = some false := by kernel_rfl
theorem ze68 : zeroL Try.prog 68 = some [.nilFunc] := by kernel_rfl
theorem by68 : bytesOf' Try.prog 68 = 8 := by kernel_rfl
theorem sz69 : szOf Try.prog 69 = some 1 := by kernel_rfl
theorem ag69 : aggB Try.prog 69 = some false := by kernel_rfl
theorem ze69 : zeroL Try.prog 69 = some [.nilFunc] := by kernel_rfl
theorem by69 : bytesOf' Try.prog 69 = 8 := by kernel_rfl
theorem sz70 : szOf Try.prog 70 = some 1 := by kernel_rfl
theorem ag70 : aggB Try.prog 70 = some false := by kernel_rfl
theorem ze70 : zeroL Try.prog 70 = some [.nilFunc] := by kernel_rfl
theorem by70 : bytesOf' Try.prog 70 = 8 := by kernel_rfl
theorem sz71 : szOf Try.prog 71 = some 2 := by kernel_rfl
theorem ag71 : aggB Try.prog 71 = some true := by kernel_rfl
theorem ze71 : zeroL Try.prog 71 = some [.int .i64 0, .int .i64 0] := by kernel_rfl
theorem by71 : bytesOf' Try.prog 71 = 16 := by kernel_rfl
theorem fa71_0 (b o : Nat) : cfa Try.prog 71 0 (.pointer (some ⟨b, o, none⟩)) = some (.pointer (some ⟨b, o, none⟩)) := by kernel_rfl
theorem fz71_0 (b : Nat) : cfa Try.prog 71 0 (.pointer (some ⟨b, 0, none⟩)) = some (.pointer (some ⟨b, 0, none⟩)) := by kernel_rfl
theorem fa71_1 (b o : Nat) : cfa Try.prog 71 1 (.pointer (some ⟨b, o, none⟩)) = some (.pointer (some ⟨b, o + 1, none⟩)) := by kernel_rfl
theorem fz71_1 (b : Nat) : cfa Try.prog 71 1 (.pointer (some ⟨b, 0, none⟩)) = some (.pointer (some ⟨b, 1, none⟩)) := by kernel_rfl
theorem sz72 : szOf Try.prog 72 = some 2 := by kernel_rfl
theorem ag72 : aggB Try.prog 72 = some true := by kernel_rfl
theorem ze72 : zeroL Try.prog 72 = some [.int .i64 0, .int .i64 0] := by kernel_rfl
theorem by72 : bytesOf' Try.prog 72 = 16 := by kernel_rfl
theorem fa72_0 (b o : Nat) : cfa Try.prog 72 0 (.pointer (some ⟨b, o, none⟩)) = some (.pointer (some ⟨b, o, none⟩)) := by kernel_rfl
theorem fz72_0 (b : Nat) : cfa Try.prog 72 0 (.pointer (some ⟨b, 0, none⟩)) = some (.pointer (some ⟨b, 0, none⟩)) := by kernel_rfl
theorem fa72_1 (b o : Nat) : cfa Try.prog 72 1 (.pointer (some ⟨b, o, none⟩)) = some (.pointer (some ⟨b, o + 1, none⟩)) := by kernel_rfl
theorem fz72_1 (b : Nat) : cfa Try.prog 72 1 (.pointer (some ⟨b, 0, none⟩)) = some (.pointer (some ⟨b, 1, none⟩)) := by kernel_rfl
theorem sz73 : szOf Try.prog 73 = some 1 := by kernel_rfl
theorem ag73 : aggB Try.prog 73 = some false := by kernel_rfl
theorem ze73 : zeroL Try.prog 73 = some [.nilFunc] := by kernel_rfl
theorem by73 : bytesOf' Try.prog 73 = 8 := by kernel_rfl
theorem sz74 : szOf Try.prog 74 = some 1 := by kernel_rfl
theorem ag74 : aggB Try.prog 74 = some false := by kernel_rfl
theorem ze74 : zeroL Try.prog 74 = some [.nilFunc] := by kernel_rfl
theorem by74 : bytesOf' Try.prog 74 = 8 := by kernel_rfl
theorem sz75 : szOf Try.prog 75 = some 6 := by kernel_rfl
theorem ag75 : aggB Try.prog 75 = some true := by kernel_rfl
theorem ze75 : zeroL Try.prog 75 = some [.int .i64 0, .int .i64 0, .int .i64 0, .int .i64 0, .int .i64 0, .slice none 0 0] := by kernel_rfl
theorem by75 : bytesOf' Try.prog 75 = 64 := by kernel_rfl
theorem fa75_0 (b o : Nat) : cfa Try.prog 75 0 (.pointer (some ⟨b, o, none⟩)) = some (.pointer (some ⟨b, o, none⟩)) := by kernel_rfl
theorem fz75_0 (b : Nat) : cfa Try.prog 75 0 (.pointer (some ⟨b, 0, none⟩)) = some (.pointer (some ⟨b, 0, none⟩)) := by kernel_rfl
theorem sz76 : szOf Try.prog 76 = some 6 := by kernel_rfl
theorem ag76 : aggB Try.prog 76 = some true := by kernel_rfl
theorem ze76 : zeroL Try.prog 76 = some [.int .i64 0, .int .i64 0, .int .i64 0, .int .i64 0, .int .i64 0, .slice none 0 0] := by kernel_rfl
theorem by76 : bytesOf' Try.prog 76 = 64 := by kernel_rfl
theorem fa76_0 (b o : Nat) : cfa Try.prog 76 0 (.pointer (some ⟨b, o, none⟩)) = some (.pointer (some ⟨b, o, none⟩)) := by kernel_rfl
theorem fz76_0 (b : Nat) : cfa Try.prog 76 0 (.pointer (some ⟨b, 0, none⟩)) = some (.pointer (some ⟨b, 0, none⟩)) := by kernel_rfl
theorem sz78 : szOf Try.prog 78 = some 1 := by kernel_rfl
theorem ag78 : aggB Try.prog 78 = some false := by kernel_rfl
theorem ze78 : zeroL Try.prog 78 = some [.nilFunc] := by kernel_rfl
theorem by78 : bytesOf' Try.prog 78 = 8 := by kernel_rfl
theorem sz79 : szOf Try.prog 79 = some 1 := by kernel_rfl
theorem ag79 : aggB Try.prog 79 = some false := by kernel_rfl
theorem ze79 : zeroL Try.prog 79 = some [.nilFunc] := by kernel_rfl
theorem by79 : bytesOf' Try.prog 79 = 8 := by kernel_rfl
theorem sz80 : szOf Try.prog 80 = some 1 := by kernel_rfl
theorem ag80 : aggB Try.prog 80 = some false := by kernel_rfl
theorem ze80 : zeroL Try.prog 80 = some [.nilFunc] := by kernel_rfl
theorem by80 : bytesOf' Try.prog 80 = 8 := by kernel_rfl
theorem sz81 : szOf Try.prog 81 = some 1 := by kernel_rfl
theorem ag81 : aggB Try.prog 81 = some false := by kernel_rfl
theorem ze81 : zeroL Try.prog 81 = some [.nilFunc] := by kernel_rfl
theorem by81 : bytesOf' Try.prog 81 = 8 := by kernel_rfl
theorem sz82 : szOf Try.prog 82 = some 1 := by kernel_rfl
theorem ag82 : aggB Try.prog 82 = some false := by kernel_rfl
theorem ze82 : zeroL Try.prog 82 = some [.pointer none] := by kernel_rfl
theorem by82 : bytesOf' Try.prog 82 = 8 := by kernel_rfl
theorem sz83 : szOf Try.prog 83 = some 1 := by kernel_rfl
theorem ag83 : aggB Try.prog 83 = some true := by kernel_rfl
theorem ze83 : zeroL Try.prog 83 = some [.int .i64 0] := by kernel_rfl
theorem by83 : bytesOf' Try.prog 83 = 8 := by kernel_rfl
theorem fa83_0 (b o : Nat) : cfa Try.prog 83 0 (.pointer (some ⟨b, o, none⟩)) = some (.pointer (some ⟨b, o, none⟩)) := by kernel_rfl
theorem fz83_0 (b : Nat) : cfa Try.prog 83 0 (.pointer (some ⟨b, 0, none⟩)) = some (.pointer (some ⟨b, 0, none⟩)) := by kernel_rfl
theorem sz84 : szOf Try.prog 84 = some 1 := by kernel_rfl
theorem ag84 : aggB Try.prog 84 = some true := by kernel_rfl
theorem ze84 : zeroL Try.prog 84 = some [.int .i64 0] := by kernel_rfl
theorem by84 : bytesOf' Try.prog 84 = 8 := by kernel_rfl
theorem fa84_0 (b o : Nat) : cfa Try.prog 84 0 (.pointer (some ⟨b, o, none⟩)) = some (.pointer (some ⟨b, o, none⟩)) := by kernel_rfl
theorem fz84_0 (b : Nat) : cfa Try.prog 84 0 (.pointer (some ⟨b, 0, none⟩)) = some (.pointer (some ⟨b, 0, none⟩)) := by kernel_rfl
theorem sz85 : szOf Try.prog 85 = some 1 := by kernel_rfl
theorem ag85 : aggB Try.prog 85 = some false := by kernel_rfl
theorem ze85 : zeroL Try.prog 85 = some [.pointer none] := by kernel_rfl
theorem by85 : bytesOf' Try.prog 85 = 8 := by kernel_rfl
theorem sz86 : szOf Try.prog 86 = some 1 := by kernel_rfl
theorem ag86 : aggB Try.prog 86 = some true := by kernel_rfl
theorem ze86 : zeroL Try.prog 86 = some [.int .i64 0] := by kernel_rfl
theorem by86 : bytesOf' Try.prog 86 = 8 := by kernel_rfl
theorem fa86_0 (b o : Nat) : cfa Try.prog 86 0 (.pointer (some ⟨b, o, none⟩)) = some (.pointer (some ⟨b, o, none⟩)) := by kernel_rfl
theorem fz86_0 (b : Nat) : cfa Try.prog 86 0 (.pointer (some ⟨b, 0, none⟩)) = some (.pointer (some ⟨b, 0, none⟩)) := by kernel_rfl
theorem sz87 : szOf Try.prog 87 = some 1 := by kernel_rfl
theorem ag87 : aggB Try.prog 87 = some true := by kernel_rfl
theorem ze87 : zeroL Try.prog 87 = some [.int .i64 0] := by kernel_rfl
theorem by87 : bytesOf' Try.prog 87 = 8 := by kernel_rfl
theorem fa87_0 (b o : Nat) : cfa Try.prog 87 0 (.pointer (some ⟨b, o, none⟩)) = some (.pointer (some ⟨b, o, none⟩)) := by kernel_rfl
theorem fz87_0 (b : Nat) : cfa Try.prog 87 0 (.pointer (some ⟨b, 0, none⟩)) = some (.pointer (some ⟨b, 0, none⟩)) := by kernel_rfl
theorem sz88 : szOf Try.prog 88 = some 1 := by kernel_rfl
theorem ag88 : aggB Try.prog 88 = some false := by kernel_rfl
theorem ze88 : zeroL Try.prog 88 = some [.slice none 0 0] := by kernel_rfl
theorem by88 : bytesOf' Try.prog 88 = 24 := by kernel_rfl
theorem ap88 : appArg Try.prog 88 = true := by kernel_rfl
theorem sz89 : szOf Try.prog 89 = some 1 := by kernel_rfl
theorem ag89 : aggB Try.prog 89 = some false := by kernel_rfl
theorem ze89 : zeroL Try.prog 89 = some [.nilIface] := by kernel_rfl
theorem by89 : bytesOf' Try.prog 89 = 16 := by kernel_rfl
theorem sz90 : szOf Try.prog 90 = some 1 := by kernel_rfl
theorem ag90 : aggB Try.prog 90 = some false := by kernel_rfl
theorem ze90 : zeroL Try.prog 90 = some [.nilIface] := by kernel_rfl
theorem by90 : bytesOf' Try.prog 90 = 16 := by kernel_rfl
theorem sz91 : szOf Try.prog 91 = some 1 := by kernel_rfl
theorem ag91 : aggB Try.prog 91 = some false := by kernel_rfl
theorem ze91 : zeroL Try.prog 91 = some [.nilFunc] := by kernel_rfl
theorem by91 : bytesOf' Try.prog 91 = 8 := by kernel_rfl
theorem sz92 : szOf Try.prog 92 = some 61 := by kernel_rfl
theorem ag92 : aggB Try.prog 92 = some true := by kernel_rfl
theorem ze92 : zeroL Try.prog 92 = some [.int .i64 0, .int .i64 0, .int .i64 0, .int .i64 0, .int .i64 0, .int .i64 0, .int .i64 0, .int .i64 0, .int .i64 0, .int .i64 0, .int .i64 0, .int .i64 0, .int .i64 0, .int .i64 0, .int .i64 0, .int .i64 0, .int .i64 0, .int .i64 0, .int .i64 0, .int .i64 0, .int .i64 0, .int .i64 0, .int .i64 0, .int .i64 0, .int .i64 0, .int .i64 0, .int .i64 0, .int .i64 0, .int .i64 0, .int .i64 0, .int .i64 0, .int .i64 0, .int .i64 0, .int .i64 0, .int .i64 0, .int .i64 0, .int .i64 0, .int .i64 0, .int .i64 0, .int .i64 0, .int .i64 0, .int .i64 0, .int .i64 0, .int .i64 0, .int .i64 0, .int .i64 0, .int .i64 0, .int .i64 0, .int .i64 0, .int .i64 0, .int .i64 0, .int .i64 0, .int .i64 0, .int .i64 0, .int .i64 0, .int .i64 0, .int .i64 0, .int .i64 0, .int .i64 0, .int .i64 0, .int .i64 0] := by kernel_rfl
theorem by92 : bytesOf' Try.prog 92 = 488 := by kernel_rfl
theorem sz93 : szOf Try.prog 93 = some 61 := by kernel_rfl
theorem ag93 : aggB Try.prog 93 = some true := by kernel_rfl
theorem ze93 : zeroL Try.prog 93 = some [.int .i64 0, .int .i64 0, .int .i64 0, .int .i64 0, .int .i64 0, .int .i64 0, .int .i64 0, .int .i64 0, .int .i64 0, .int .i64 0, .int .i64 0, .int .i64 0, .int .i64 0, .int .i64 0, .int .i64 0, .int .i64 0, .int .i64 0, .int .i64 0, .int .i64 0, .int .i64 0, .int .i64 0, .int .i64 0, .int .i64 0, .int .i64 0, .int .i64 0, .int .i64 0, .int .i64 0, .int .i64 0, .int .i64 0, .int .i64 0, .int .i64 0, .int .i64 0, .int .i64 0, .int .i64 0, .int .i64 0, .int .i64 0, .int .i64 0, .int .i64 0, .int .i64 0, .int .i64 0, .int .i64 0, .int .i64 0, .int .i64 0, .int .i64 0, .int .i64 0, .int .i64 0, .int .i64 0, .int .i64 0, .int .i64 0, .int .i64 0, .int .i64 0, .int .i64 0, .int .i64 0, .int .i64 0, .int .i64 0, .int .i64 0, .int .i64 0, .int .i64 0, .int .i64 0, .int .i64 0, .int .i64 0] := by kernel_rfl
theorem by93 : bytesOf' Try.prog 93 = 488 := by kernel_rfl
theorem sz94 : szOf Try.prog 94 = some 1 := by kernel_rfl
theorem ag94 : aggB Try.prog 94 = some false := by kernel_rfl
theorem ze94 : zeroL Try.prog 94 = some [.nilFunc] := by kernel_rfl
theorem by94 : bytesOf' Try.prog 94 = 8 := by kernel_rfl
theorem sz95 : szOf Try.prog 95 = some 1 := by kernel_rfl
theorem ag95 : aggB Try.prog 95 = some false := by kernel_rfl
theorem ze95 : zeroL Try.prog 95 = some [.nilFunc] := by kernel_rfl
theorem by95 : bytesOf' Try.prog 95 = 8 := by kernel_rfl
theorem sz96 : szOf Try.prog 96 = some 1 := by kernel_rfl
theorem ag96 : aggB Try.prog 96 = some false := by kernel_rfl
theorem ze96 : zeroL Try.prog 96 = some [.nilFunc] := by kernel_rfl
theorem by96 : bytesOf' Try.prog 96 = 8 := by kernel_rfl
theorem sz97 : szOf Try.prog 97 = some 1 := by kernel_rfl
theorem ag97 : aggB Try.prog 97 = some false := by kernel_rfl
theorem ze97 : zeroL Try.prog 97 = some [.slice none 0 0] := by kernel_rfl
theorem by97 : bytesOf' Try.prog 97 = 24 := by kernel_rfl
theorem ap97 : appArg Try.prog 97 = true := by kernel_rfl
theorem sz98 : szOf Try.prog 98 = some 1 := by kernel_rfl
theorem ag98 : aggB Try.prog 98 = some false := by kernel_rfl
theorem ze98 : zeroL Try.prog 98 = some [.nilFunc] := by kernel_rfl
theorem by98 : bytesOf' Try.prog 98 = 8 := by kernel_rfl
theorem sz99 : szOf Try.prog 99 = some 1 := by kernel_rfl
theorem ag99 : aggB Try.prog 99 = some false := by kernel_rfl
theorem ze99 : zeroL Try.prog 99 = some [.nilFunc] := by kernel_rfl
theorem by99 : bytesOf' Try.prog 99 = 8 := by kernel_rfl
theorem sz100 : szOf Try.prog 100 = some 1 := by kernel_rfl
theorem ag100 : aggB Try.prog 100 = some false := by kernel_rfl
theorem ze100 : zeroL Try.prog 100 = some [.nilFunc] := by kernel_rfl
theorem by100 : bytesOf' Try.prog 100 = 8 := by kernel_rfl
theorem sz101 : szOf Try.prog 101 = some 1 := by kernel_rfl
theorem ag101 : aggB Try.prog 101 = some false := by kernel_rfl
theorem ze101 : zeroL Try.prog 101 = some [.nilFunc] := by kernel_rfl
theorem by101 : bytesOf' Try.prog 101 = 8 := by kernel_rfl
theorem sz102 : szOf Try.prog 102 = some 64 := by kernel_rfl
theorem ag102 : aggB Try.prog 102 = some true := by kernel_rfl
theorem ze102 : zeroL Try.prog 102 = some [.int .i64 0, .int .i64 0, .int .i64 0, .int .i64 0, .int .i64 0, .int .i64 0, .int .i64 0, .int .i64 0, .int .i64 0, .int .i64 0, .int .i64 0, .int .i64 0, .int .i64 0, .int .i64 0, .int .i64 0, .int .i64 0, .int .i64 0, .int .i64 0, .int .i64 0, .int .i64 0, .int .i64 0, .int .i64 0, .int .i64 0, .int .i64 0, .int .i64 0, .int .i64 0, .int .i64 0, .int .i64 0, .int .i64 0, .int .i64 0, .int .i64 0, .int .i64 0, .int .i64 0, .int .i64 0, .int .i64 0, .int .i64 0, .int .i64 0, .int .i64 0, .int .i64 0, .int .i64 0, .int .i64 0, .int .i64 0, .int .i64 0, .int .i64 0, .int .i64 0, .int .i64 0, .int .i64 0, .int .i64 0, .int .i64 0, .int .i64 0, .int .i64 0, .int .i64 0, .int .i64 0, .int .i64 0, .int .i64 0, .int .i64 0, .int .i64 0, .int .i64 0, .int .i64 0, .int .i64 0, .int .i64 0, .int .i64 0, .int .i64 0, .int .i64 0] := by kernel_rfl
theorem by102 : bytesOf' Try.prog 102 = 512 := by kernel_rfl
theorem fa102_0 (b o : Nat) : cfa Try.prog 102 0 (.pointer (some ⟨b, o, none⟩)) = some (.pointer (some ⟨b, o, none⟩)) := by kernel_rfl
theorem fz102_0 (b : Nat) : cfa Try.prog 102 0 (.pointer (some ⟨b, 0, none⟩)) = some (.pointer (some ⟨b, 0, none⟩)) := by kernel_rfl
theorem fa102_1 (b o : Nat) : cfa Try.prog 102 1 (.pointer (some ⟨b, o, none⟩)) = some (.pointer (some ⟨b, o + 1, none⟩)) := by kernel_rfl
theorem fz102_1 (b : Nat) : cfa Try.prog 102 1 (.pointer (some ⟨b, 0, none⟩)) = some (.pointer (some ⟨b, 1, none⟩)) := by kernel_rfl
theorem fa102_2 (b o : Nat) : cfa Try.prog 102 2 (.pointer (some ⟨b, o, none⟩)) = some (.pointer (some ⟨b, o + 2, none⟩)) := by kernel_rfl
theorem fz102_2 (b : Nat) : cfa Try.prog 102 2 (.pointer (some ⟨b, 0, none⟩)) = some (.pointer (some ⟨b, 2, none⟩)) := by kernel_rfl
theorem fa102_3 (b o : Nat) : cfa Try.prog 102 3 (.pointer (some ⟨b, o, none⟩)) = some (.pointer (some ⟨b, o + 3, none⟩)) := by kernel_rfl
theorem fz102_3 (b : Nat) : cfa Try.prog 102 3 (.pointer (some ⟨b, 0, none⟩)) = some (.pointer (some ⟨b, 3, none⟩)) := by kernel_rfl
theorem sz103 : szOf Try.prog 103 = some 64 := by kernel_rfl
theorem ag103 : aggB Try.prog 103 = some true := by kernel_rfl
theorem ze103 : zeroL Try.prog 103 = some [.int .i64 0, .int .i64 0, .int .i64 0, .int .i64 0, .int .i64 0, .int .i64 0, .int .i64 0, .int .i64 0, .int .i64 0, .int .i64 0, .int .i64 0, .int .i64 0, .int .i64 0, .int .i64 0, .int .i64 0, .int .i64 0, .int .i64 0, .int .i64 0, .int .i64 0, .int .i64 0, .int .i64 0, .int .i64 0, .int .i64 0, .int .i64 0, .int .i64 0, .int .i64 0, .int .i64 0, .int .i64 0, .int .i64 0, .int .i64 0, .int .i64 0, .int .i64 0, .int .i64 0, .int .i64 0, .int .i64 0, .int .i64 0, .int .i64 0, .int .i64 0, .int .i64 0, .int .i64 0, .int .i64 0, .int .i64 0, .int .i64 0, .int .i64 0, .int .i64 0, .int .i64 0, .int .i64 0, .int .i64 0, .int .i64 0, .int .i64 0, .int .i64 0, .int .i64 0, .int .i64 0, .int .i64 0, .int .i64 0, .int .i64 0, .int .i64 0, .int .i64 0, .int .i64 0, .int .i64 0, .int .i64 0, .int .i64 0, .int .i64 0, .int .i64 0] := by kernel_rfl
theorem by103 : bytesOf' Try.prog 103 = 512 := by kernel_rfl
theorem fa103_0 (b o : Nat) : cfa Try.prog 103 0 (.pointer (some ⟨b, o, none⟩)) = some (.pointer (some ⟨b, o, none⟩)) := by kernel_rfl
theorem fz103_0 (b : Nat) : cfa Try.prog 103 0 (.pointer (some ⟨b, 0, none⟩)) = some (.pointer (some ⟨b, 0, none⟩)) := by kernel_rfl
theorem fa103_1 (b o : Nat) : cfa Try.prog 103 1 (.pointer (some ⟨b, o, none⟩)) = some (.pointer (some ⟨b, o + 1, none⟩)) := by kernel_rfl
theorem fz103_1 (b : Nat) : cfa Try.prog 103 1 (.pointer (some ⟨b, 0, none⟩)) = some (.pointer (some ⟨b, 1, none⟩)) := by kernel_rfl
theorem fa103_2 (b o : Nat) : cfa Try.prog 103 2 (.pointer (some ⟨b, o, none⟩)) = some (.pointer (some ⟨b, o + 2, none⟩)) := by kernel_rfl
theorem fz103_2 (b : Nat) : cfa Try.prog 103 2 (.pointer (some ⟨b, 0, none⟩)) = some (.pointer (some ⟨b, 2, none⟩)) := by kernel_rfl
theorem fa103_3 (b o : Nat) : cfa Try.prog 103 3 (.pointer (some ⟨b, o, none⟩)) = some (.pointer (some ⟨b, o + 3, none⟩)) := by kernel_rfl
theorem fz103_3 (b : Nat) : cfa Try.prog 103 3 (.pointer (some ⟨b, 0, none⟩)) = some (.pointer (some ⟨b, 3, none⟩)) := by kernel_rfl
theorem sz104 : szOf Try.prog 104 = some 1 := by kernel_rfl
theorem ag104 : aggB Try.prog 104 = some false := by kernel_rfl
theorem ze104 : zeroL Try.prog 104 = some [.nilFunc] := by kernel_rfl
theorem by104 : bytesOf' Try.prog 104 = 8 := by kernel_rfl
theorem sz106 : szOf Try.prog 106 = some 1 := by kernel_rfl
theorem ag106 : aggB Try.prog 106 = some false := by kernel_rfl
theorem ze106 : zeroL Try.prog 106 = some [.nilFunc] := by kernel_rfl
theorem by106 : bytesOf' Try.prog 106 = 8 := by kernel_rfl
theorem sz107 : szOf Try.prog 107 = some 1 := by kernel_rfl
theorem ag107 : aggB Try.prog 107 = some false := by kernel_rfl
theorem ze107 : zeroL Try.prog 107 = some [.map none] := by kernel_rfl
theorem by107 : bytesOf' Try.prog 107 = 8 := by kernel_rfl
theorem sz108 : szOf Try.prog 108 = some 1 := by kernel_rfl
theorem ag108 : aggB Try.prog 108 = some false := by kernel_rfl
theorem ze108 : zeroL Try.prog 108 = some [.nilFunc] := by kernel_rfl
theorem by108 : bytesOf' Try.prog 108 = 8 := by kernel_rfl
theorem sz109 : szOf Try.prog 109 = some 2 := by kernel_rfl
theorem ag109 : aggB Try.prog 109 = some true := by kernel_rfl
theorem ze109 : zeroL Try.prog 109 = some [.int .i64 0, .int .i64 0] := by kernel_rfl
theorem by109 : bytesOf' Try.prog 109 = 16 := by kernel_rfl
theorem fa109_0 (b o : Nat) : cfa Try.prog 109 0 (.pointer (some ⟨b, o, none⟩)) = some (.pointer (some ⟨b, o, none⟩)) := by kernel_rfl
theorem fz109_0 (b : Nat) : cfa Try.prog 109 0 (.pointer (some ⟨b, 0, none⟩)) = some (.pointer (some ⟨b, 0, none⟩)) := by kernel_rfl
theorem fa109_1 (b o : Nat) : cfa Try.prog 109 1 (.pointer (some ⟨b, o, none⟩)) = some (.pointer (some ⟨b, o + 1, none⟩)) := by kernel_rfl
theorem fz109_1 (b : Nat) : cfa Try.prog 109 1 (.pointer (some ⟨b, 0, none⟩)) = some (.pointer (some ⟨b, 1, none⟩)) := by kernel_rfl
theorem sz110 : szOf Try.prog 110 = some 2 := by kernel_rfl
theorem ag110 : aggB Try.prog 110 = some true := by kernel_rfl
theorem ze110 : zeroL Try.prog 110 = some [.int .i64 0, .int .i64 0] := by kernel_rfl
theorem by110 : bytesOf' Try.prog 110 = 16 := by kernel_rfl
theorem fa110_0 (b o : Nat) : cfa Try.prog 110 0 (.pointer (some ⟨b, o, none⟩)) = some (.pointer (some ⟨b, o, none⟩)) := by kernel_rfl
theorem fz110_0 (b : Nat) : cfa Try.prog 110 0 (.pointer (some ⟨b, 0, none⟩)) = some (.pointer (some ⟨b, 0, none⟩)) := by kernel_rfl
theorem fa110_1 (b o : Nat) : cfa Try.prog 110 1 (.pointer (some ⟨b, o, none⟩)) = some (.pointer (some ⟨b, o + 1, none⟩)) := by kernel_rfl
theorem fz110_1 (b : Nat) : cfa Try.prog 110 1 (.pointer (some ⟨b, 0, none⟩)) = some (.pointer (some ⟨b, 1, none⟩)) := by kernel_rfl
theorem sz112 : szOf Try.prog 112 = some 1 := by kernel_rfl
theorem ag112 : aggB Try.prog 112 = some false := by kernel_rfl
theorem ze112 : zeroL Try.prog 112 = some [.nilFunc] := by kernel_rfl
theorem by112 : bytesOf' Try.prog 112 = 8 := by kernel_rfl
theorem sz113 : szOf Try.prog 113 = some 1 := by kernel_rfl
theorem ag113 : aggB Try.prog 113 = some false := by kernel_rfl
theorem ze113 : zeroL Try.prog 113 = some [.nilFunc] := by kernel_rfl
theorem by113 : bytesOf' Try.prog 113 = 8 := by kernel_rfl
theorem sz114 : szOf Try.prog 114 = some 1 := by kernel_rfl
theorem ag114 : aggB Try.prog 114 = some false := by kernel_rfl
theorem ze114 : zeroL Try.prog 114 = some [.nilFunc] := by kernel_rfl
theorem by114 : bytesOf' Try.prog 114 = 8 := by kernel_rfl
theorem sz115 : szOf Try.prog 115 = some 1 := by kernel_rfl
theorem ag115 : aggB Try.prog 115 = some false := by kernel_rfl
theorem ze115 : zeroL Try.prog 115 = some [.nilFunc] := by kernel_rfl
theorem by115 : bytesOf' Try.prog 115 = 8 := by kernel_rfl
theorem sz116 : szOf Try.prog 116 = some 1 := by kernel_rfl
theorem ag116 : aggB Try.prog 116 = some false := by kernel_rfl
theorem ze116 : zeroL Try.prog 116 = some [.nilFunc] := by kernel_rfl
theorem by116 : bytesOf' Try.prog 116 = 8 := by kernel_rfl
theorem sz117 : szOf Try.prog 117 = some 1 := by kernel_rfl
theorem ag117 : aggB Try.prog 117 = some false := by kernel_rfl
theorem ze117 : zeroL Try.prog 117 = some [.nilFunc] := by kernel_rfl
theorem by117 : bytesOf' Try.prog 117 = 8 := by kernel_rfl
theorem sz118 : szOf Try.prog 118 = some 1 := by kernel_rfl
theorem ag118 : aggB Try.prog 118 = some false := by kernel_rfl
theorem ze118 : zeroL Try.prog 118 = some [.nilFunc] := by kernel_rfl
theorem by118 : bytesOf' Try.prog 118 = 8 := by kernel_rfl
theorem sz119 : szOf Try.prog 119 = some 1 := by kernel_rfl
theorem ag119 : aggB Try.prog 119 = some false := by kernel_rfl
theorem ze119 : zeroL Try.prog 119 = some [.nilFunc] := by kernel_rfl
theorem by119 : bytesOf' Try.prog 119 = 8 := by kernel_rfl
theorem sz120 : szOf Try.prog 120 = some 1 := by kernel_rfl
theorem ag120 : aggB Try.prog 120 = some false := by kernel_rfl
theorem ze120 : zeroL Try.prog 120 = some [.nilFunc] := by kernel_rfl
theorem by120 : bytesOf' Try.prog 120 = 8 := by kernel_rfl
theorem sz121 : szOf Try.prog 121 = some 1 := by kernel_rfl
theorem ag121 : aggB Try.prog 121 = some false := by kernel_rfl
theorem ze121 : zeroL Try.prog 121 = some [.pointer none] := by kernel_rfl
theorem by121 : bytesOf' Try.prog 121 = 8 := by kernel_rfl
theorem sz122 : szOf Try.prog 122 = some 1 := by kernel_rfl
theorem ag122 : aggB Try.prog 122 = some false := by kernel_rfl
theorem ze122 : zeroL Try.prog 122 = some [.nilFunc] := by kernel_rfl
theorem by122 : bytesOf' Try.prog 122 = 8 := by kernel_rfl
theorem sz123 : szOf Try.prog 123 = some 1 := by kernel_rfl
theorem ag123 : aggB Try.prog 123 = some false := by kernel_rfl
theorem ze123 : zeroL Try.prog 123 = some [.nilFunc] := by kernel_rfl
theorem by123 : bytesOf' Try.prog 123 = 8 := by kernel_rfl
theorem sz124 : szOf Try.prog 124 = some 1 := by kernel_rfl
theorem ag124 : aggB Try.prog 124 = some false := by kernel_rfl
theorem ze124 : zeroL Try.prog 124 = some [.nilFunc] := by kernel_rfl
theorem by124 : bytesOf' Try.prog 124 = 8 := by kernel_rfl
theorem sz125 : szOf Try.prog 125 = some 1 := by kernel_rfl
theorem ag125 : aggB Try.prog 125 = some false := by kernel_rfl
theorem ze125 : zeroL Try.prog 125 = some [.nilFunc] := by kernel_rfl
theorem by125 : bytesOf' Try.prog 125 = 8 := by kernel_rfl
theorem sz126 : szOf Try.prog 126 = some 1 := by kernel_rfl
theorem ag126 : aggB Try.prog 126 = some false := by kernel_rfl
theorem ze126 : zeroL Try.prog 126 = some [.nilFunc] := by kernel_rfl
theorem by126 : bytesOf' Try.prog 126 = 8 := by kernel_rfl
theorem sz127 : szOf Try.prog 127 = some 1 := by kernel_rfl
theorem ag127 : aggB Try.prog 127 = some false := by kernel_rfl
theorem ze127 : zeroL Try.prog 127 = some [.nilFunc] := by kernel_rfl
theorem by127 : bytesOf' Try.prog 127 = 8 := by kernel_rfl
theorem sz128 : szOf Try.prog 128 = some 1 := by kernel_rfl
theorem ag128 : aggB Try.prog 128 = some false := by kernel_rfl
theorem ze128 : zeroL Try.prog 128 = some [.nilFunc] := by kernel_rfl
theorem by128 : bytesOf' Try.prog 128 = 8 := by kernel_rfl
theorem sz129 : szOf Try.prog 129 = some 1 := by kernel_rfl
theorem ag129 : aggB Try.prog 129 = some false := by kernel_rfl
theorem ze129 : zeroL Try.prog 129 = some [.nilFunc] := by kernel_rfl
theorem by129 : bytesOf' Try.prog 129 = 8 := by kernel_rfl
theorem sz130 : szOf Try.prog 130 = some 1 := by kernel_rfl
theorem ag130 : aggB Try.prog 130 = some false := by kernel_rfl
theorem ze130 : zeroL Try.prog 130 = some [.nilFunc] := by kernel_rfl
theorem by130 : bytesOf' Try.prog 130 = 8 := by kernel_rfl
theorem sz131 : szOf Try.prog 131 = some 4 := by kernel_rfl
theorem ag131 : aggB Try.prog 131 = some true := by kernel_rfl
theorem ze131 : zeroL Try.prog 131 = some [.pointer none, .pointer none, .pointer none, .string ⟨#[]⟩] := by kernel_rfl
theorem by131 : bytesOf' Try.prog 131 = 40 := by kernel_rfl
theorem fa131_0 (b o : Nat) : cfa Try.prog 131 0 (.pointer (some ⟨b, o, none⟩)) = some (.pointer (some ⟨b, o, none⟩)) := by kernel_rfl
theorem fz131_0 (b : Nat) : cfa Try.prog 131 0 (.pointer (some ⟨b, 0, none⟩)) = some (.pointer (some ⟨b, 0, none⟩)) := by kernel_rfl
theorem fa131_1 (b o : Nat) : cfa Try.prog 131 1 (.pointer (some ⟨b, o, none⟩)) = some (.pointer (some ⟨b, o + 1, none⟩)) := by kernel_rfl
theorem fz131_1 (b : Nat) : cfa Try.prog 131 1 (.pointer (some ⟨b, 0, none⟩)) = some (.pointer (some ⟨b, 1, none⟩)) := by kernel_rfl
theorem fa131_2 (b o : Nat) : cfa Try.prog 131 2 (.pointer (some ⟨b, o, none⟩)) = some (.pointer (some ⟨b, o + 2, none⟩)) := by kernel_rfl
theorem fz131_2 (b : Nat) : cfa Try.prog 131 2 (.pointer (some ⟨b, 0, none⟩)) = some (.pointer (some ⟨b, 2, none⟩)) := by kernel_rfl
theorem fa131_3 (b o : Nat) : cfa Try.prog 131 3 (.pointer (some ⟨b, o, none⟩)) = some (.pointer (some ⟨b, o + 3, none⟩)) := by kernel_rfl
theorem fz131_3 (b : Nat) : cfa Try.prog 131 3 (.pointer (some ⟨b, 0, none⟩)) = some (.pointer (some ⟨b, 3, none⟩)) := by kernel_rfl
theorem sz132 : szOf Try.prog 132 = some 4 := by kernel_rfl
theorem ag132 : aggB Try.prog 132 = some true := by kernel_rfl
theorem ze132 : zeroL Try.prog 132 = some [.pointer none, .pointer none, .pointer none, .string ⟨#[]⟩] := by kernel_rfl
theorem by132 : bytesOf' Try.prog 132 = 40 := by kernel_rfl
theorem fa132_0 (b o : Nat) : cfa Try.prog 132 0 (.pointer (some ⟨b, o, none⟩)) = some (.pointer (some ⟨b, o, none⟩)) := by kernel_rfl
theorem fz132_0 (b : Nat) : cfa Try.prog 132 0 (.pointer (some ⟨b, 0, none⟩)) = some (.pointer (some ⟨b, 0, none⟩)) := by kernel_rfl
theorem fa132_1 (b o : Nat) : cfa Try.prog 132 1 (.pointer (some ⟨b, o, none⟩)) = some (.pointer (some ⟨b, o + 1, none⟩)) := by kernel_rfl
theorem fz132_1 (b : Nat) : cfa Try.prog 132 1 (.pointer (some ⟨b, 0, none⟩)) = some (.pointer (some ⟨b, 1, none⟩)) := by kernel_rfl
theorem fa132_2 (b o : Nat) : cfa Try.prog 132 2 (.pointer (some ⟨b, o, none⟩)) = some (.pointer (some ⟨b, o + 2, none⟩)) := by kernel_rfl
theorem fz132_2 (b : Nat) : cfa Try.prog 132 2 (.pointer (some ⟨b, 0, none⟩)) = some (.pointer (some ⟨b, 2, none⟩)) := by kernel_rfl
theorem fa132_3 (b o : Nat) : cfa Try.prog 132 3 (.pointer (some ⟨b, o, none⟩)) = some (.pointer (some ⟨b, o + 3, none⟩)) := by kernel_rfl
theorem fz132_3 (b : Nat) : cfa Try.prog 132 3 (.pointer (some ⟨b, 0, none⟩)) = some (.pointer (some ⟨b, 3, none⟩)) := by kernel_rfl
theorem sz133 : szOf Try.prog 133 = some 0 := by kernel_rfl
theorem ag133 : aggB Try.prog 133 = some true := by kernel_rfl
theorem ze133 : zeroL Try.prog 133 = some [] := by kernel_rfl
theorem by133 : bytesOf' Try.prog 133 = 0 := by kernel_rfl
theorem sz134 : szOf Try.prog 134 = some 0 := by kernel_rfl
theorem ag134 : aggB Try.prog 134 = some true := by kernel_rfl
theorem ze134 : zeroL Try.prog 134 = some [] := by kernel_rfl
theorem by134 : bytesOf' Try.prog 134 = 0 := by kernel_rfl
theorem sz135 : szOf Try.prog 135 = some 0 := by kernel_rfl
theorem ag135 : aggB Try.prog 135 = some true := by kernel_rfl
theorem ze135 : zeroL Try.prog 135 = some [] := by kernel_rfl
theorem by135 : bytesOf' Try.prog 135 = 0 := by kernel_rfl
theorem sz136 : szOf Try.prog 136 = some 1 := by kernel_rfl
theorem ag136 : aggB Try.prog 136 = some false := by kernel_rfl
theorem ze136 : zeroL Try.prog 136 = some [.int .u32 0] := by kernel_rfl
theorem by136 : bytesOf' Try.prog 136 = 4 := by kernel_rfl
theorem sz137 : szOf Try.prog 137 = some 1 := by kernel_rfl
theorem ag137 : aggB Try.prog 137 = some false := by kernel_rfl
theorem ze137 : zeroL Try.prog 137 = some [.int .u8 0] := by kernel_rfl
theorem by137 : bytesOf' Try.prog 137 = 1 := by kernel_rfl
theorem sz138 : szOf Try.prog 138 = some 1 := by kernel_rfl
theorem ag138 : aggB Try.prog 138 = some false := by kernel_rfl
theorem ze138 : zeroL Try.prog 138 = some [.int .u8 0] := by kernel_rfl
theorem by138 : bytesOf' Try.prog 138 = 1 := by kernel_rfl
theorem sz139 : szOf Try.prog 139 = some 1 := by kernel_rfl
theorem ag139 : aggB Try.prog 139 = some false := by kernel_rfl
theorem ze139 : zeroL Try.prog 139 = some [.nilFunc] := by kernel_rfl
theorem by139 : bytesOf' Try.prog 139 = 8 := by kernel_rfl
theorem sz140 : szOf Try.prog 140 = some 1 := by kernel_rfl
theorem ag140 : aggB Try.prog 140 = some false := by kernel_rfl
theorem ze140 : zeroL Try.prog 140 = some [.pointer none] := by kernel_rfl
theorem by140 : bytesOf' Try.prog 140 = 8 := by kernel_rfl
theorem sz141 : szOf Try.prog 141 = some 1 := by kernel_rfl
theorem ag141 : aggB Try.prog 141 = some false := by kernel_rfl
theorem ze141 : zeroL Try.prog 141 = some [.int .i32 0] := by kernel_rfl
theorem by141 : bytesOf' Try.prog 141 = 4 := by kernel_rfl
theorem sz142 : szOf Try.prog 142 = some 1 := by kernel_rfl
theorem ag142 : aggB Try.prog 142 = some false := by kernel_rfl
theorem ze142 : zeroL Try.prog 142 = some [.int .i32 0] := by kernel_rfl
theorem by142 : bytesOf' Try.prog 142 = 4 := by kernel_rfl
theorem sz143 : szOf Try.prog 143 = some 11 := by kernel_rfl
theorem ag143 : aggB Try.prog 143 = some true := by kernel_rfl
theorem ze143 : zeroL Try.prog 143 = some [.int .u64 0, .int .u64 0, .int .u32 0, .int .u8 0, .int .u8 0, .int .u8 0, .int .u8 0, .nilFunc, .pointer none, .int .i32 0, .int .i32 0] := by kernel_rfl
theorem by143 : bytesOf' Try.prog 143 = 48 := by kernel_rfl
theorem fa143_0 (b o : Nat) : cfa Try.prog 143 0 (.pointer (some ⟨b, o, none⟩)) = some (.pointer (some ⟨b, o, none⟩)) := by kernel_rfl
theorem fz143_0 (b : Nat) : cfa Try.prog 143 0 (.pointer (some ⟨b, 0, none⟩)) = some (.pointer (some ⟨b, 0, none⟩)) := by kernel_rfl
theorem fa143_1 (b o : Nat) : cfa Try.prog 143 1 (.pointer (some ⟨b, o, none⟩)) = some (.pointer (some ⟨b, o + 1, none⟩)) := by kernel_rfl
theorem fz143_1 (b : Nat) : cfa Try.prog 143 1 (.pointer (some ⟨b, 0, none⟩)) = some (.pointer (some ⟨b, 1, none⟩)) := by kernel_rfl
theorem fa143_2 (b o : Nat) : cfa Try.prog 143 2 (.pointer (some ⟨b, o, none⟩)) = some (.pointer (some ⟨b, o + 2, none⟩)) := by kernel_rfl
theorem fz143_2 (b : Nat) : cfa Try.prog 143 2 (.pointer (some ⟨b, 0, none⟩)) = some (.pointer (some ⟨b, 2, none⟩)) := by kernel_rfl
theorem fa143_3 (b o : Nat) : cfa Try.prog 143 3 (.pointer (some ⟨b, o, none⟩)) = some (.pointer (some ⟨b, o + 3, none⟩)) := by kernel_rfl
theorem fz143_3 (b : Nat) : cfa Try.prog 143 3 (.pointer (some ⟨b, 0, none⟩)) = some (.pointer (some ⟨b, 3, none⟩)) := by kernel_rfl
theorem fa143_4 (b o : Nat) : cfa Try.prog 143 4 (.pointer (some ⟨b, o, none⟩)) = some (.pointer (some ⟨b, o + 4, none⟩)) := by kernel_rfl
theorem fz143_4 (b : Nat) : cfa Try.prog 143 4 (.pointer (some ⟨b, 0, none⟩)) = some (.pointer (some ⟨b, 4, none⟩)) := by kernel_rfl
theorem fa143_5 (b o : Nat) : cfa Try.prog 143 5 (.pointer (some ⟨b, o, none⟩)) = some (.pointer (some ⟨b, o + 5, none⟩)) := by kernel_rfl
theorem fz143_5 (b : Nat) : cfa Try.prog 143 5 (.pointer (some ⟨b, 0, none⟩)) = some (.pointer (some ⟨b, 5, none⟩)) := by kernel_rfl
theorem fa143_6 (b o : Nat) : cfa Try.prog 143 6 (.pointer (some ⟨b, o, none⟩)) = some (.pointer (some ⟨b, o + 6, none⟩)) := by kernel_rfl
theorem fz143_6 (b : Nat) : cfa Try.prog 143 6 (.pointer (some ⟨b, 0, none⟩)) = some (.pointer (some ⟨b, 6, none⟩)) := by kernel_rfl
theorem fa143_7 (b o : Nat) : cfa Try.prog 143 7 (.pointer (some ⟨b, o, none⟩)) = some (.pointer (some ⟨b, o + 7, none⟩)) := by kernel_rfl
theorem fz143_7 (b : Nat) : cfa Try.prog 143 7 (.pointer (some ⟨b, 0, none⟩)) = some (.pointer (some ⟨b, 7, none⟩)) := by kernel_rfl
theorem fa143_8 (b o : Nat) : cfa Try.prog 143 8 (.pointer (some ⟨b, o, none⟩)) = some (.pointer (some ⟨b, o + 8, none⟩)) := by kernel_rfl
theorem fz143_8 (b : Nat) : cfa Try.prog 143 8 (.pointer (some ⟨b, 0, none⟩)) = some (.pointer (some ⟨b, 8, none⟩)) := by kernel_rfl
theorem fa143_9 (b o : Nat) : cfa Try.prog 143 9 (.pointer (some ⟨b, o, none⟩)) = some (.pointer (some ⟨b, o + 9, none⟩)) := by kernel_rfl
theorem fz143_9 (b : Nat) : cfa Try.prog 143 9 (.pointer (some ⟨b, 0, none⟩)) = some (.pointer (some ⟨b, 9, none⟩)) := by kernel_rfl
theorem fa143_10 (b o : Nat) : cfa Try.prog 143 10 (.pointer (some ⟨b, o, none⟩)) = some (.pointer (some ⟨b, o + 10, none⟩)) := by kernel_rfl
theorem fz143_10 (b : Nat) : cfa Try.prog 143 10 (.pointer (some ⟨b, 0, none⟩)) = some (.pointer (some ⟨b, 10, none⟩)) := by kernel_rfl
theorem sz144 : szOf Try.prog 144 = some 11 := by kernel_rfl
theorem ag144 : aggB Try.prog 144 = some true := by kernel_rfl
theorem ze144 : zeroL Try.prog 144 = some [.int .u64 0, .int .u64 0, .int .u32 0, .int .u8 0, .int .u8 0, .int .u8 0, .int .u8 0, .nilFunc, .pointer none, .int .i32 0, .int .i32 0] := by kernel_rfl
theorem by144 : bytesOf' Try.prog 144 = 48 := by kernel_rfl
theorem fa144_0 (b o : Nat) : cfa Try.prog 144 0 (.pointer (some ⟨b, o, none⟩)) = some (.pointer (some ⟨b, o, none⟩)) := by kernel_rfl
theorem fz144_0 (b : Nat) : cfa Try.prog 144 0 (.pointer (some ⟨b, 0, none⟩)) = some (.pointer (some ⟨b, 0, none⟩)) := by kernel_rfl
theorem fa144_1 (b o : Nat) : cfa Try.prog 144 1 (.pointer (some ⟨b, o, none⟩)) = some (.pointer (some ⟨b, o + 1, none⟩)) := by kernel_rfl
theorem fz144_1 (b : Nat) : cfa Try.prog 144 1 (.pointer (some ⟨b, 0, none⟩)) = some (.pointer (some ⟨b, 1, none⟩)) := by kernel_rfl
theorem fa144_2 (b o : Nat) : cfa Try.prog 144 2 (.pointer (some ⟨b, o, none⟩)) = some (.pointer (some ⟨b, o + 2, none⟩)) := by kernel_rfl
theorem fz144_2 (b : Nat) : cfa Try.prog 144 2 (.pointer (some ⟨b, 0, none⟩)) = some (.pointer (some ⟨b, 2, none⟩)) := by kernel_rfl
theorem fa144_3 (b o : Nat) : cfa Try.prog 144 3 (.pointer (some ⟨b, o, none⟩)) = some (.pointer (some ⟨b, o + 3, none⟩)) := by kernel_rfl
theorem fz144_3 (b : Nat) : cfa Try.prog 144 3 (.pointer (some ⟨b, 0, none⟩)) = some (.pointer (some ⟨b, 3, none⟩)) := by kernel_rfl
theorem fa144_4 (b o : Nat) : cfa Try.prog 144 4 (.pointer (some ⟨b, o, none⟩)) = some (.pointer (some ⟨b, o + 4, none⟩)) := by kernel_rfl
theorem fz144_4 (b : Nat) : cfa Try.prog 144 4 (.pointer (some ⟨b, 0, none⟩)) = some (.pointer (some ⟨b, 4, none⟩)) := by kernel_rfl
theorem fa144_5 (b o : Nat) : cfa Try.prog 144 5 (.pointer (some ⟨b, o, none⟩)) = some (.pointer (some ⟨b, o + 5, none⟩)) := by kernel_rfl
theorem fz144_5 (b : Nat) : cfa Try.prog 144 5 (.pointer (some ⟨b, 0, none⟩)) = some (.pointer (some ⟨b, 5, none⟩)) := by kernel_rfl
theorem fa144_6 (b o : Nat) : cfa Try.prog 144 6 (.pointer (some ⟨b, o, none⟩)) = some (.pointer (some ⟨b, o + 6, none⟩)) := by kernel_rfl
theorem fz144_6 (b : Nat) : cfa Try.prog 144 6 (.pointer (some ⟨b, 0, none⟩)) = some (.pointer (some ⟨b, 6, none⟩)) := by kernel_rfl
theorem fa144_7 (b o : Nat) : cfa Try.prog 144 7 (.pointer (some ⟨b, o, none⟩)) = some (.pointer (some ⟨b, o + 7, none⟩)) := by kernel_rfl
theorem fz144_7 (b : Nat) : cfa Try.prog 144 7 (.pointer (some ⟨b, 0, none⟩)) = some (.pointer (some ⟨b, 7, none⟩)) := by kernel_rfl
theorem fa144_8 (b o : Nat) : cfa Try.prog 144 8 (.pointer (some ⟨b, o, none⟩)) = some (.pointer (some ⟨b, o + 8, none⟩)) := by kernel_rfl
theorem fz144_8 (b : Nat) : cfa Try.prog 144 8 (.pointer (some ⟨b, 0, none⟩)) = some (.pointer (some ⟨b, 8, none⟩)) := by kernel_rfl
theorem fa144_9 (b o : Nat) : cfa Try.prog 144 9 (.pointer (some ⟨b, o, none⟩)) = some (.pointer (some ⟨b, o + 9, none⟩)) := by kernel_rfl
theorem fz144_9 (b : Nat) : cfa Try.prog 144 9 (.pointer (some ⟨b, 0, none⟩)) = some (.pointer (some ⟨b, 9, none⟩)) := by kernel_rfl
theorem fa144_10 (b o : Nat) : cfa Try.prog 144 10 (.pointer (some ⟨b, o, none⟩)) = some (.pointer (some ⟨b, o + 10, none⟩)) := by kernel_rfl
theorem fz144_10 (b : Nat) : cfa Try.prog 144 10 (.pointer (some ⟨b, 0, none⟩)) = some (.pointer (some ⟨b, 10, none⟩)) := by kernel_rfl
end Go.Proofs.Ytjkfleibnojjaaa.T
