/- Part 7 of 21 of the proof that the law TopAnewScent returns true and leaves its argument as it read before, for every input that the bounded statement admits (what it reads is of bulk at most 1048576). -/
import Derived.Test.YtclgfagkaklnnaaGreatProg
import Derived.KernelRfl
import Derived.Test.YtclgfagkaklnnaaGreatP04
open Go Go.Proofs Go.Proofs.YtclgfagkaklnnaaGreat
set_option maxRecDepth 100000
namespace Go.Proofs.YtclgfagkaklnnaaGreat.C
theorem mixed : Tryz.prog.follows .mixedOrders = true := by kernel_rfl
theorem sz1 : szOf Tryz.prog 1 = some 1 := by kernel_rfl
theorem ag1 : aggB Tryz.prog 1 = some false := by kernel_rfl
theorem ze1 : zeroL Tryz.prog 1 = some [.nilFunc] := by kernel_rfl
theorem by1 : bytesOf' Tryz.prog 1 = 8 := by kernel_rfl
theorem sz2 : szOf Tryz.prog 2 = some 1 := by kernel_rfl
theorem ag2 : aggB Tryz.prog 2 = some false := by kernel_rfl
theorem ze2 : zeroL Tryz.prog 2 = some [.int .i64 0] := by kernel_rfl
theorem by2 : bytesOf' Tryz.prog 2 = 8 := by kernel_rfl
theorem sz3 : szOf Tryz.prog 3 = some 1 := by kernel_rfl
theorem ag3 : aggB Tryz.prog 3 = some false := by kernel_rfl
theorem ze3 : zeroL Tryz.prog 3 = some [.int .i64 0] := by kernel_rfl
theorem by3 : bytesOf' Tryz.prog 3 = 8 := by kernel_rfl
theorem sz4 : szOf Tryz.prog 4 = some 1 := by kernel_rfl
theorem ag4 : aggB Tryz.prog 4 = some false := by kernel_rfl
theorem ze4 : zeroL Tryz.prog 4 = some [.bool false] := by kernel_rfl
theorem by4 : bytesOf' Tryz.prog 4 = 1 := by kernel_rfl
theorem sz5 : szOf Tryz.prog 5 = some 1 := by kernel_rfl
theorem ag5 : aggB Tryz.prog 5 = some false := by kernel_rfl
theorem ze5 : zeroL Tryz.prog 5 = some [.int .u8 0] := by kernel_rfl
theorem by5 : bytesOf' Tryz.prog 5 = 1 := by kernel_rfl
theorem sz6 : szOf Tryz.prog 6 = some 1 := by kernel_rfl
theorem ag6 : aggB Tryz.prog 6 = some false := by kernel_rfl
theorem ze6 : zeroL Tryz.prog 6 = some [.int .u8 0] := by kernel_rfl
theorem by6 : bytesOf' Tryz.prog 6 = 1 := by kernel_rfl
theorem sz7 : szOf Tryz.prog 7 = some 4 := by kernel_rfl
theorem ag7 : aggB Tryz.prog 7 = some true := by kernel_rfl
theorem ze7 : zeroL Tryz.prog 7 = some [.int .i64 0, .int .i64 0, .bool false, .int .u8 0] := by kernel_rfl
theorem by7 : bytesOf' Tryz.prog 7 = 24 := by kernel_rfl
theorem fa7_0 (b o : Nat) : cfa Tryz.prog 7 0 (.pointer (some ⟨b, o, none⟩)) = some (.pointer (some ⟨b, o, none⟩)) := by kernel_rfl
theorem fz7_0 (b : Nat) : cfa Tryz.prog 7 0 (.pointer (some ⟨b, 0, none⟩)) = some (.pointer (some ⟨b, 0, none⟩)) := by kernel_rfl
theorem fa7_1 (b o : Nat) : cfa Tryz.prog 7 1 (.pointer (some ⟨b, o, none⟩)) = some (.pointer (some ⟨b, o + 1, none⟩)) := by kernel_rfl
theorem fz7_1 (b : Nat) : cfa Tryz.prog 7 1 (.pointer (some ⟨b, 0, none⟩)) = some (.pointer (some ⟨b, 1, none⟩)) := by kernel_rfl
theorem fa7_2 (b o : Nat) : cfa Tryz.prog 7 2 (.pointer (some ⟨b, o, none⟩)) = some (.pointer (some ⟨b, o + 2, none⟩)) := by kernel_rfl
theorem fz7_2 (b : Nat) : cfa Tryz.prog 7 2 (.pointer (some ⟨b, 0, none⟩)) = some (.pointer (some ⟨b, 2, none⟩)) := by kernel_rfl
theorem fa7_3 (b o : Nat) : cfa Tryz.prog 7 3 (.pointer (some ⟨b, o, none⟩)) = some (.pointer (some ⟨b, o + 3, none⟩)) := by kernel_rfl
theorem fz7_3 (b : Nat) : cfa Tryz.prog 7 3 (.pointer (some ⟨b, 0, none⟩)) = some (.pointer (some ⟨b, 3, none⟩)) := by kernel_rfl
theorem sz8 : szOf Tryz.prog 8 = some 4 := by kernel_rfl
theorem ag8 : aggB Tryz.prog 8 = some true := by kernel_rfl
theorem ze8 : zeroL Tryz.prog 8 = some [.int .i64 0, .int .i64 0, .bool false, .int .u8 0] := by kernel_rfl
theorem by8 : bytesOf' Tryz.prog 8 = 24 := by kernel_rfl
theorem fa8_0 (b o : Nat) : cfa Tryz.prog 8 0 (.pointer (some ⟨b, o, none⟩)) = some (.pointer (some ⟨b, o, none⟩)) := by kernel_rfl
theorem fz8_0 (b : Nat) : cfa Tryz.prog 8 0 (.pointer (some ⟨b, 0, none⟩)) = some (.pointer (some ⟨b, 0, none⟩)) := by kernel_rfl
theorem fa8_1 (b o : Nat) : cfa Tryz.prog 8 1 (.pointer (some ⟨b, o, none⟩)) = some (.pointer (some ⟨b, o + 1, none⟩)) := by kernel_rfl
theorem fz8_1 (b : Nat) : cfa Tryz.prog 8 1 (.pointer (some ⟨b, 0, none⟩)) = some (.pointer (some ⟨b, 1, none⟩)) := by kernel_rfl
theorem fa8_2 (b o : Nat) : cfa Tryz.prog 8 2 (.pointer (some ⟨b, o, none⟩)) = some (.pointer (some ⟨b, o + 2, none⟩)) := by kernel_rfl
theorem fz8_2 (b : Nat) : cfa Tryz.prog 8 2 (.pointer (some ⟨b, 0, none⟩)) = some (.pointer (some ⟨b, 2, none⟩)) := by kernel_rfl
theorem fa8_3 (b o : Nat) : cfa Tryz.prog 8 3 (.pointer (some ⟨b, o, none⟩)) = some (.pointer (some ⟨b, o + 3, none⟩)) := by kernel_rfl
theorem fz8_3 (b : Nat) : cfa Tryz.prog 8 3 (.pointer (some ⟨b, 0, none⟩)) = some (.pointer (some ⟨b, 3, none⟩)) := by kernel_rfl
theorem sz9 : szOf Tryz.prog 9 = some 1 := by kernel_rfl
theorem ag9 : aggB Tryz.prog 9 = some false := by kernel_rfl
theorem ze9 : zeroL Tryz.prog 9 = some [.string ⟨#[]⟩] := by kernel_rfl
theorem by9 : bytesOf' Tryz.prog 9 = 16 := by kernel_rfl
theorem sz10 : szOf Tryz.prog 10 = some 1 := by kernel_rfl
theorem ag10 : aggB Tryz.prog 10 = some false := by kernel_rfl
theorem ze10 : zeroL Tryz.prog 10 = some [.string ⟨#[]⟩] := by kernel_rfl
theorem by10 : bytesOf' Tryz.prog 10 = 16 := by kernel_rfl
theorem sz11 : szOf Tryz.prog 11 = some 1 := by kernel_rfl
theorem ag11 : aggB Tryz.prog 11 = some false := by kernel_rfl
theorem ze11 : zeroL Tryz.prog 11 = some [.string ⟨#[]⟩] := by kernel_rfl
theorem by11 : bytesOf' Tryz.prog 11 = 16 := by kernel_rfl
theorem sz12 : szOf Tryz.prog 12 = some 1 := by kernel_rfl
theorem ag12 : aggB Tryz.prog 12 = some false := by kernel_rfl
theorem ze12 : zeroL Tryz.prog 12 = some [.int .u64 0] := by kernel_rfl
theorem by12 : bytesOf' Tryz.prog 12 = 8 := by kernel_rfl
theorem sz13 : szOf Tryz.prog 13 = some 2 := by kernel_rfl
theorem ag13 : aggB Tryz.prog 13 = some true := by kernel_rfl
theorem ze13 : zeroL Tryz.prog 13 = some [.string ⟨#[]⟩, .int .u64 0] := by kernel_rfl
theorem by13 : bytesOf' Tryz.prog 13 = 24 := by kernel_rfl
theorem fa13_0 (b o : Nat) : cfa Tryz.prog 13 0 (.pointer (some ⟨b, o, none⟩)) = some (.pointer (some ⟨b, o, none⟩)) := by kernel_rfl
theorem fz13_0 (b : Nat) : cfa Tryz.prog 13 0 (.pointer (some ⟨b, 0, none⟩)) = some (.pointer (some ⟨b, 0, none⟩)) := by kernel_rfl
theorem fa13_1 (b o : Nat) : cfa Tryz.prog 13 1 (.pointer (some ⟨b, o, none⟩)) = some (.pointer (some ⟨b, o + 1, none⟩)) := by kernel_rfl
theorem fz13_1 (b : Nat) : cfa Tryz.prog 13 1 (.pointer (some ⟨b, 0, none⟩)) = some (.pointer (some ⟨b, 1, none⟩)) := by kernel_rfl
theorem sz14 : szOf Tryz.prog 14 = some 2 := by kernel_rfl
theorem ag14 : aggB Tryz.prog 14 = some true := by kernel_rfl
theorem ze14 : zeroL Tryz.prog 14 = some [.string ⟨#[]⟩, .int .u64 0] := by kernel_rfl
theorem by14 : bytesOf' Tryz.prog 14 = 24 := by kernel_rfl
theorem fa14_0 (b o : Nat) : cfa Tryz.prog 14 0 (.pointer (some ⟨b, o, none⟩)) = some (.pointer (some ⟨b, o, none⟩)) := by kernel_rfl
theorem fz14_0 (b : Nat) : cfa Tryz.prog 14 0 (.pointer (some ⟨b, 0, none⟩)) = some (.pointer (some ⟨b, 0, none⟩)) := by kernel_rfl
theorem fa14_1 (b o : Nat) : cfa Tryz.prog 14 1 (.pointer (some ⟨b, o, none⟩)) = some (.pointer (some ⟨b, o + 1, none⟩)) := by kernel_rfl
theorem fz14_1 (b : Nat) : cfa Tryz.prog 14 1 (.pointer (some ⟨b, 0, none⟩)) = some (.pointer (some ⟨b, 1, none⟩)) := by kernel_rfl
theorem sz15 : szOf Tryz.prog 15 = some 1 := by kernel_rfl
theorem ag15 : aggB Tryz.prog 15 = some false := by kernel_rfl
theorem ze15 : zeroL Tryz.prog 15 = some [.pointer none] := by kernel_rfl
theorem by15 : bytesOf' Tryz.prog 15 = 8 := by kernel_rfl
theorem sz16 : szOf Tryz.prog 16 = some 1 := by kernel_rfl
theorem ag16 : aggB Tryz.prog 16 = some false := by kernel_rfl
theorem ze16 : zeroL Tryz.prog 16 = some [.pointer none] := by kernel_rfl
theorem by16 : bytesOf' Tryz.prog 16 = 8 := by kernel_rfl
theorem sz17 : szOf Tryz.prog 17 = some 1 := by kernel_rfl
theorem ag17 : aggB Tryz.prog 17 = some false := by kernel_rfl
theorem ze17 : zeroL Tryz.prog 17 = some [.pointer none] := by kernel_rfl
theorem by17 : bytesOf' Tryz.prog 17 = 8 := by kernel_rfl
theorem sz18 : szOf Tryz.prog 18 = some 1 := by kernel_rfl
theorem ag18 : aggB Tryz.prog 18 = some true := by kernel_rfl
theorem ze18 : zeroL Tryz.prog 18 = some [.pointer none] := by kernel_rfl
theorem by18 : bytesOf' Tryz.prog 18 = 8 := by kernel_rfl
theorem fa18_0 (b o : Nat) : cfa Tryz.prog 18 0 (.pointer (some ⟨b, o, none⟩)) = some (.pointer (some ⟨b, o, none⟩)) := by kernel_rfl
theorem fz18_0 (b : Nat) : cfa Tryz.prog 18 0 (.pointer (some ⟨b, 0, none⟩)) = some (.pointer (some ⟨b, 0, none⟩)) := by kernel_rfl
theorem sz19 : szOf Tryz.prog 19 = some 1 := by kernel_rfl
theorem ag19 : aggB Tryz.prog 19 = some true := by kernel_rfl
theorem ze19 : zeroL Tryz.prog 19 = some [.pointer none] := by kernel_rfl
theorem by19 : bytesOf' Tryz.prog 19 = 8 := by kernel_rfl
theorem fa19_0 (b o : Nat) : cfa Tryz.prog 19 0 (.pointer (some ⟨b, o, none⟩)) = some (.pointer (some ⟨b, o, none⟩)) := by kernel_rfl
theorem fz19_0 (b : Nat) : cfa Tryz.prog 19 0 (.pointer (some ⟨b, 0, none⟩)) = some (.pointer (some ⟨b, 0, none⟩)) := by kernel_rfl
theorem sz20 : szOf Tryz.prog 20 = some 1 := by kernel_rfl
theorem ag20 : aggB Tryz.prog 20 = some false := by kernel_rfl
theorem ze20 : zeroL Tryz.prog 20 = some [.nilIface] := by kernel_rfl
theorem by20 : bytesOf' Tryz.prog 20 = 16 := by kernel_rfl
theorem sz21 : szOf Tryz.prog 21 = some 1 := by kernel_rfl
theorem ag21 : aggB Tryz.prog 21 = some false := by kernel_rfl
theorem ze21 : zeroL Tryz.prog 21 = some [.int .i32 0] := by kernel_rfl
theorem by21 : bytesOf' Tryz.prog 21 = 4 := by kernel_rfl
theorem sz22 : szOf Tryz.prog 22 = some 1 := by kernel_rfl
theorem ag22 : aggB Tryz.prog 22 = some false := by kernel_rfl
theorem ze22 : zeroL Tryz.prog 22 = some [.slice none 0 0] := by kernel_rfl
theorem by22 : bytesOf' Tryz.prog 22 = 24 := by kernel_rfl
theorem ap22 : appArg Tryz.prog 22 = true := by kernel_rfl
theorem sz23 : szOf Tryz.prog 23 = some 1 := by kernel_rfl
theorem ag23 : aggB Tryz.prog 23 = some false := by kernel_rfl
theorem ze23 : zeroL Tryz.prog 23 = some [.slice none 0 0] := by kernel_rfl
theorem by23 : bytesOf' Tryz.prog 23 = 24 := by kernel_rfl
theorem ap23 : appArg Tryz.prog 23 = true := by kernel_rfl
theorem sz24 : szOf Tryz.prog 24 = some 2 := by kernel_rfl
theorem ag24 : aggB Tryz.prog 24 = some true := by kernel_rfl
theorem ze24 : zeroL Tryz.prog 24 = some [.slice none 0 0, .slice none 0 0] := by kernel_rfl
theorem by24 : bytesOf' Tryz.prog 24 = 48 := by kernel_rfl
theorem fa24_0 (b o : Nat) : cfa Tryz.prog 24 0 (.pointer (some ⟨b, o, none⟩)) = some (.pointer (some ⟨b, o, none⟩)) := by kernel_rfl
theorem fz24_0 (b : Nat) : cfa Tryz.prog 24 0 (.pointer (some ⟨b, 0, none⟩)) = some (.pointer (some ⟨b, 0, none⟩)) := by kernel_rfl
theorem fa24_1 (b o : Nat) : cfa Tryz.prog 24 1 (.pointer (some ⟨b, o, none⟩)) = some (.pointer (some ⟨b, o + 1, none⟩)) := by kernel_rfl
theorem fz24_1 (b : Nat) : cfa Tryz.prog 24 1 (.pointer (some ⟨b, 0, none⟩)) = some (.pointer (some ⟨b, 1, none⟩)) := by kernel_rfl
theorem sz25 : szOf Tryz.prog 25 = some 2 := by kernel_rfl
theorem ag25 : aggB Tryz.prog 25 = some true := by kernel_rfl
theorem ze25 : zeroL Tryz.prog 25 = some [.slice none 0 0, .slice none 0 0] := by kernel_rfl
theorem by25 : bytesOf' Tryz.prog 25 = 48 := by kernel_rfl
theorem fa25_0 (b o : Nat) : cfa Tryz.prog 25 0 (.pointer (some ⟨b, o, none⟩)) = some (.pointer (some ⟨b, o, none⟩)) := by kernel_rfl
theorem fz25_0 (b : Nat) : cfa Tryz.prog 25 0 (.pointer (some ⟨b, 0, none⟩)) = some (.pointer (some ⟨b, 0, none⟩)) := by kernel_rfl
theorem fa25_1 (b o : Nat) : cfa Tryz.prog 25 1 (.pointer (some ⟨b, o, none⟩)) = some (.pointer (some ⟨b, o + 1, none⟩)) := by kernel_rfl
theorem fz25_1 (b : Nat) : cfa Tryz.prog 25 1 (.pointer (some ⟨b, 0, none⟩)) = some (.pointer (some ⟨b, 1, none⟩)) := by kernel_rfl
theorem sz26 : szOf Tryz.prog 26 = some 1 := by kernel_rfl
theorem ag26 : aggB Tryz.prog 26 = some false := by kernel_rfl
theorem ze26 : zeroL Tryz.prog 26 = some [.slice none 0 0] := by kernel_rfl
theorem by26 : bytesOf' Tryz.prog 26 = 24 := by kernel_rfl
theorem ap26 : appArg Tryz.prog 26 = true := by kernel_rfl
theorem sz27 : szOf Tryz.prog 27 = some 1 := by kernel_rfl
theorem ag27 : aggB Tryz.prog 27 = some false := by kernel_rfl
theorem ze27 : zeroL Tryz.prog 27 = some [.slice none 0 0] := by kernel_rfl
theorem by27 : bytesOf' Tryz.prog 27 = 24 := by kernel_rfl
theorem ap27 : appArg Tryz.prog 27 = true := by kernel_rfl
theorem sz28 : szOf Tryz.prog 28 = some 1 := by kernel_rfl
theorem ag28 : aggB Tryz.prog 28 = some false := by kernel_rfl
theorem ze28 : zeroL Tryz.prog 28 = some [.slice none 0 0] := by kernel_rfl
theorem by28 : bytesOf' Tryz.prog 28 = 24 := by kernel_rfl
theorem ap28 : appArg Tryz.prog 28 = true := by kernel_rfl
theorem sz29 : szOf Tryz.prog 29 = some 3 := by kernel_rfl
theorem ag29 : aggB Tryz.prog 29 = some true := by kernel_rfl
theorem ze29 : zeroL Tryz.prog 29 = some [.slice none 0 0, .slice none 0 0, .slice none 0 0] := by kernel_rfl
theorem by29 : bytesOf' Tryz.prog 29 = 72 := by kernel_rfl
theorem fa29_0 (b o : Nat) : cfa Tryz.prog 29 0 (.pointer (some ⟨b, o, none⟩)) = some (.pointer (some ⟨b, o, none⟩)) := by kernel_rfl
theorem fz29_0 (b : Nat) : cfa Tryz.prog 29 0 (.pointer (some ⟨b, 0, none⟩)) = some (.pointer (some ⟨b, 0, none⟩)) := by kernel_rfl
theorem fa29_1 (b o : Nat) : cfa Tryz.prog 29 1 (.pointer (some ⟨b, o, none⟩)) = some (.pointer (some ⟨b, o + 1, none⟩)) := by kernel_rfl
theorem fz29_1 (b : Nat) : cfa Tryz.prog 29 1 (.pointer (some ⟨b, 0, none⟩)) = some (.pointer (some ⟨b, 1, none⟩)) := by kernel_rfl
theorem fa29_2 (b o : Nat) : cfa Tryz.prog 29 2 (.pointer (some ⟨b, o, none⟩)) = some (.pointer (some ⟨b, o + 2, none⟩)) := by kernel_rfl
theorem fz29_2 (b : Nat) : cfa Tryz.prog 29 2 (.pointer (some ⟨b, 0, none⟩)) = some (.pointer (some ⟨b, 2, none⟩)) := by kernel_rfl
theorem sz30 : szOf Tryz.prog 30 = some 3 := by kernel_rfl
theorem ag30 : aggB Tryz.prog 30 = some true := by kernel_rfl
theorem ze30 : zeroL Tryz.prog 30 = some [.slice none 0 0, .slice none 0 0, .slice none 0 0] := by kernel_rfl
theorem by30 : bytesOf' Tryz.prog 30 = 72 := by kernel_rfl
theorem fa30_0 (b o : Nat) : cfa Tryz.prog 30 0 (.pointer (some ⟨b, o, none⟩)) = some (.pointer (some ⟨b, o, none⟩)) := by kernel_rfl
theorem fz30_0 (b : Nat) : cfa Tryz.prog 30 0 (.pointer (some ⟨b, 0, none⟩)) = some (.pointer (some ⟨b, 0, none⟩)) := by kernel_rfl
theorem fa30_1 (b o : Nat) : cfa Tryz.prog 30 1 (.pointer (some ⟨b, o, none⟩)) = some (.pointer (some ⟨b, o + 1, none⟩)) := by kernel_rfl
theorem fz30_1 (b : Nat) : cfa Tryz.prog 30 1 (.pointer (some ⟨b, 0, none⟩)) = some (.pointer (some ⟨b, 1, none⟩)) := by kernel_rfl
theorem fa30_2 (b o : Nat) : cfa Tryz.prog 30 2 (.pointer (some ⟨b, o, none⟩)) = some (.pointer (some ⟨b, o + 2, none⟩)) := by kernel_rfl
theorem fz30_2 (b : Nat) : cfa Tryz.prog 30 2 (.pointer (some ⟨b, 0, none⟩)) = some (.pointer (some ⟨b, 2, none⟩)) := by kernel_rfl
theorem sz31 : szOf Tryz.prog 31 = some 10 := by kernel_rfl
theorem ag31 : aggB Tryz.prog 31 = some true := by kernel_rfl
theorem ze31 : zeroL Tryz.prog 31 = some [.slice none 0 0, .slice none 0 0, .slice none 0 0, .slice none 0 0, .slice none 0 0, .slice none 0 0, .int .i64 0, .int .i64 0, .int .i64 0, .int .i64 0] := by kernel_rfl
theorem by31 : bytesOf' Tryz.prog 31 = 176 := by kernel_rfl
theorem fa31_0 (b o : Nat) : cfa Tryz.prog 31 0 (.pointer (some ⟨b, o, none⟩)) = some (.pointer (some ⟨b, o, none⟩)) := by kernel_rfl
theorem fz31_0 (b : Nat) : cfa Tryz.prog 31 0 (.pointer (some ⟨b, 0, none⟩)) = some (.pointer (some ⟨b, 0, none⟩)) := by kernel_rfl
theorem fa31_1 (b o : Nat) : cfa Tryz.prog 31 1 (.pointer (some ⟨b, o, none⟩)) = some (.pointer (some ⟨b, o + 2, none⟩)) := by kernel_rfl
theorem fz31_1 (b : Nat) : cfa Tryz.prog 31 1 (.pointer (some ⟨b, 0, none⟩)) = some (.pointer (some ⟨b, 2, none⟩)) := by kernel_rfl
theorem fa31_2 (b o : Nat) : cfa Tryz.prog 31 2 (.pointer (some ⟨b, o, none⟩)) = some (.pointer (some ⟨b, o + 3, none⟩)) := by kernel_rfl
theorem fz31_2 (b : Nat) : cfa Tryz.prog 31 2 (.pointer (some ⟨b, 0, none⟩)) = some (.pointer (some ⟨b, 3, none⟩)) := by kernel_rfl
theorem fa31_3 (b o : Nat) : cfa Tryz.prog 31 3 (.pointer (some ⟨b, o, none⟩)) = some (.pointer (some ⟨b, o + 6, none⟩)) := by kernel_rfl
theorem fz31_3 (b : Nat) : cfa Tryz.prog 31 3 (.pointer (some ⟨b, 0, none⟩)) = some (.pointer (some ⟨b, 6, none⟩)) := by kernel_rfl
theorem fa31_4 (b o : Nat) : cfa Tryz.prog 31 4 (.pointer (some ⟨b, o, none⟩)) = some (.pointer (some ⟨b, o + 7, none⟩)) := by kernel_rfl
theorem fz31_4 (b : Nat) : cfa Tryz.prog 31 4 (.pointer (some ⟨b, 0, none⟩)) = some (.pointer (some ⟨b, 7, none⟩)) := by kernel_rfl
theorem fa31_5 (b o : Nat) : cfa Tryz.prog 31 5 (.pointer (some ⟨b, o, none⟩)) = some (.pointer (some ⟨b, o + 8, none⟩)) := by kernel_rfl
theorem fz31_5 (b : Nat) : cfa Tryz.prog 31 5 (.pointer (some ⟨b, 0, none⟩)) = some (.pointer (some ⟨b, 8, none⟩)) := by kernel_rfl
theorem fa31_6 (b o : Nat) : cfa Tryz.prog 31 6 (.pointer (some ⟨b, o, none⟩)) = some (.pointer (some ⟨b, o + 9, none⟩)) := by kernel_rfl
theorem fz31_6 (b : Nat) : cfa Tryz.prog 31 6 (.pointer (some ⟨b, 0, none⟩)) = some (.pointer (some ⟨b, 9, none⟩)) := by kernel_rfl
theorem sz32 : szOf Tryz.prog 32 = some 10 := by kernel_rfl
theorem ag32 : aggB Tryz.prog 32 = some true := by kernel_rfl
theorem ze32 : zeroL Tryz.prog 32 = some [.slice none 0 0, .slice none 0 0, .slice none 0 0, .slice none 0 0, .slice none 0 0, .slice none 0 0, .int .i64 0, .int .i64 0, .int .i64 0, .int .i64 0] := by kernel_rfl
theorem by32 : bytesOf' Tryz.prog 32 = 176 := by kernel_rfl
theorem fa32_0 (b o : Nat) : cfa Tryz.prog 32 0 (.pointer (some ⟨b, o, none⟩)) = some (.pointer (some ⟨b, o, none⟩)) := by kernel_rfl
theorem fz32_0 (b : Nat) : cfa Tryz.prog 32 0 (.pointer (some ⟨b, 0, none⟩)) = some (.pointer (some ⟨b, 0, none⟩)) := by kernel_rfl
theorem fa32_1 (b o : Nat) : cfa Tryz.prog 32 1 (.pointer (some ⟨b, o, none⟩)) = some (.pointer (some ⟨b, o + 2, none⟩)) := by kernel_rfl
theorem fz32_1 (b : Nat) : cfa Tryz.prog 32 1 (.pointer (some ⟨b, 0, none⟩)) = some (.pointer (some ⟨b, 2, none⟩)) := by kernel_rfl
theorem fa32_2 (b o : Nat) : cfa Tryz.prog 32 2 (.pointer (some ⟨b, o, none⟩)) = some (.pointer (some ⟨b, o + 3, none⟩)) := by kernel_rfl
theorem fz32_2 (b : Nat) : cfa Tryz.prog 32 2 (.pointer (some ⟨b, 0, none⟩)) = some (.pointer (some ⟨b, 3, none⟩)) := by kernel_rfl
theorem fa32_3 (b o : Nat) : cfa Tryz.prog 32 3 (.pointer (some ⟨b, o, none⟩)) = some (.pointer (some ⟨b, o + 6, none⟩)) := by kernel_rfl
theorem fz32_3 (b : Nat) : cfa Tryz.prog 32 3 (.pointer (some ⟨b, 0, none⟩)) = some (.pointer (some ⟨b, 6, none⟩)) := by kernel_rfl
theorem fa32_4 (b o : Nat) : cfa Tryz.prog 32 4 (.pointer (some ⟨b, o, none⟩)) = some (.pointer (some ⟨b, o + 7, none⟩)) := by kernel_rfl
theorem fz32_4 (b : Nat) : cfa Tryz.prog 32 4 (.pointer (some ⟨b, 0, none⟩)) = some (.pointer (some ⟨b, 7, none⟩)) := by kernel_rfl
theorem fa32_5 (b o : Nat) : cfa Tryz.prog 32 5 (.pointer (some ⟨b, o, none⟩)) = some (.pointer (some ⟨b, o + 8, none⟩)) := by kernel_rfl
theorem fz32_5 (b : Nat) : cfa Tryz.prog 32 5 (.pointer (some ⟨b, 0, none⟩)) = some (.pointer (some ⟨b, 8, none⟩)) := by kernel_rfl
theorem fa32_6 (b o : Nat) : cfa Tryz.prog 32 6 (.pointer (some ⟨b, o, none⟩)) = some (.pointer (some ⟨b, o + 9, none⟩)) := by kernel_rfl
theorem fz32_6 (b : Nat) : cfa Tryz.prog 32 6 (.pointer (some ⟨b, 0, none⟩)) = some (.pointer (some ⟨b, 9, none⟩)) := by kernel_rfl
theorem sz33 : szOf Tryz.prog 33 = some 1 := by kernel_rfl
theorem ag33 : aggB Tryz.prog 33 = some false := by kernel_rfl
theorem ze33 : zeroL Tryz.prog 33 = some [.slice none 0 0] := by kernel_rfl
theorem by33 : bytesOf' Tryz.prog 33 = 24 := by kernel_rfl
theorem ap33 : appArg Tryz.prog 33 = true := by kernel_rfl
theorem sz34 : szOf Tryz.prog 34 = some 2 := by kernel_rfl
theorem ag34 : aggB Tryz.prog 34 = some true := by kernel_rfl
theorem ze34 : zeroL Tryz.prog 34 = some [.slice none 0 0, .slice none 0 0] := by kernel_rfl
theorem by34 : bytesOf' Tryz.prog 34 = 48 := by kernel_rfl
theorem fa34_0 (b o : Nat) : cfa Tryz.prog 34 0 (.pointer (some ⟨b, o, none⟩)) = some (.pointer (some ⟨b, o, none⟩)) := by kernel_rfl
theorem fz34_0 (b : Nat) : cfa Tryz.prog 34 0 (.pointer (some ⟨b, 0, none⟩)) = some (.pointer (some ⟨b, 0, none⟩)) := by kernel_rfl
theorem fa34_1 (b o : Nat) : cfa Tryz.prog 34 1 (.pointer (some ⟨b, o, none⟩)) = some (.pointer (some ⟨b, o + 1, none⟩)) := by kernel_rfl
theorem fz34_1 (b : Nat) : cfa Tryz.prog 34 1 (.pointer (some ⟨b, 0, none⟩)) = some (.pointer (some ⟨b, 1, none⟩)) := by kernel_rfl
theorem sz35 : szOf Tryz.prog 35 = some 2 := by kernel_rfl
theorem ag35 : aggB Tryz.prog 35 = some true := by kernel_rfl
theorem ze35 : zeroL Tryz.prog 35 = some [.slice none 0 0, .slice none 0 0] := by kernel_rfl
theorem by35 : bytesOf' Tryz.prog 35 = 48 := by kernel_rfl
theorem fa35_0 (b o : Nat) : cfa Tryz.prog 35 0 (.pointer (some ⟨b, o, none⟩)) = some (.pointer (some ⟨b, o, none⟩)) := by kernel_rfl
theorem fz35_0 (b : Nat) : cfa Tryz.prog 35 0 (.pointer (some ⟨b, 0, none⟩)) = some (.pointer (some ⟨b, 0, none⟩)) := by kernel_rfl
theorem fa35_1 (b o : Nat) : cfa Tryz.prog 35 1 (.pointer (some ⟨b, o, none⟩)) = some (.pointer (some ⟨b, o + 1, none⟩)) := by kernel_rfl
theorem fz35_1 (b : Nat) : cfa Tryz.prog 35 1 (.pointer (some ⟨b, 0, none⟩)) = some (.pointer (some ⟨b, 1, none⟩)) := by kernel_rfl
theorem sz36 : szOf Tryz.prog 36 = some 1 := by kernel_rfl
theorem ag36 : aggB Tryz.prog 36 = some false := by kernel_rfl
theorem ze36 : zeroL Tryz.prog 36 = some [.nilFunc] := by kernel_rfl
theorem by36 : bytesOf' Tryz.prog 36 = 8 := by kernel_rfl
theorem sz37 : szOf Tryz.prog 37 = some 1 := by kernel_rfl
theorem ag37 : aggB Tryz.prog 37 = some false := by kernel_rfl
theorem ze37 : zeroL Tryz.prog 37 = some [.pointer none] := by kernel_rfl
theorem by37 : bytesOf' Tryz.prog 37 = 8 := by kernel_rfl
theorem sz38 : szOf Tryz.prog 38 = some 1 := by kernel_rfl
theorem ag38 : aggB Tryz.prog 38 = some false := by kernel_rfl
theorem ze38 : zeroL Tryz.prog 38 = some [.nilFunc] := by kernel_rfl
theorem by38 : bytesOf' Tryz.prog 38 = 8 := by kernel_rfl
theorem sz39 : szOf Tryz.prog 39 = some 1 := by kernel_rfl
theorem ag39 : aggB Tryz.prog 39 = some false := by kernel_rfl
theorem ze39 : zeroL Tryz.prog 39 = some [.int .i64 0] := by kernel_rfl
theorem by39 : bytesOf' Tryz.prog 39 = 8 := by kernel_rfl
theorem sz41 : szOf Tryz.prog 41 = some 1 := by kernel_rfl
theorem ag41 : aggB Tryz.prog 41 = some false := by kernel_rfl
theorem ze41 : zeroL Tryz.prog 41 = some [.nilFunc] := by kernel_rfl
theorem by41 : bytesOf' Tryz.prog 41 = 8 := by kernel_rfl
theorem sz42 : szOf Tryz.prog 42 = some 1 := by kernel_rfl
theorem ag42 : aggB Tryz.prog 42 = some false := by kernel_rfl
theorem ze42 : zeroL Tryz.prog 42 = some [.nilFunc] := by kernel_rfl
theorem by42 : bytesOf' Tryz.prog 42 = 8 := by kernel_rfl
theorem sz43 : szOf Tryz.prog 43 = some 1 := by kernel_rfl
theorem ag43 : aggB Tryz.prog 43 = some false := by kernel_rfl
theorem ze43 : zeroL Tryz.prog 43 = some [.nilFunc] := by kernel_rfl
theorem by43 : bytesOf' Tryz.prog 43 = 8 := by kernel_rfl
theorem sz44 : szOf Tryz.prog 44 = some 1 := by kernel_rfl
theorem ag44 : aggB Tryz.prog 44 = some false := by kernel_rfl
theorem ze44 : zeroL Tryz.prog 44 = some [.nilFunc] := by kernel_rfl
theorem by44 : bytesOf' Tryz.prog 44 = 8 := by kernel_rfl
theorem sz45 : szOf Tryz.prog 45 = some 1 := by kernel_rfl
theorem ag45 : aggB Tryz.prog 45 = some false := by kernel_rfl
theorem ze45 : zeroL Tryz.prog 45 = some [.slice none 0 0] := by kernel_rfl
theorem by45 : bytesOf' Tryz.prog 45 = 24 := by kernel_rfl
theorem ap45 : appArg Tryz.prog 45 = true := by kernel_rfl
theorem sz47 : szOf Tryz.prog 47 = some 1 := by kernel_rfl
theorem ag47 : aggB Tryz.prog 47 = some false := by kernel_rfl
theorem ze47 : zeroL Tryz.prog 47 = some [.nilFunc] := by kernel_rfl
theorem by47 : bytesOf' Tryz.prog 47 = 8 := by kernel_rfl
theorem sz48 : szOf Tryz.prog 48 = some 1 := by kernel_rfl
theorem ag48 : aggB Tryz.prog 48 = some false := by kernel_rfl
theorem ze48 : zeroL Tryz.prog 48 = some [.nilFunc] := by kernel_rfl
theorem by48 : bytesOf' Tryz.prog 48 = 8 := by kernel_rfl
theorem sz49 : szOf Tryz.prog 49 = some 1 := by kernel_rfl
theorem ag49 : aggB Tryz.prog 49 = some false := by kernel_rfl
theorem ze49 : zeroL Tryz.prog 49 = some [.nilFunc] := by kernel_rfl
theorem by49 : bytesOf' Tryz.prog 49 = 8 := by kernel_rfl
theorem sz50 : szOf Tryz.prog 50 = some 1 := by kernel_rfl
theorem ag50 : aggB Tryz.prog 50 = some false := by kernel_rfl
theorem ze50 : zeroL Tryz.prog 50 = some [.pointer none] := by kernel_rfl
theorem by50 : bytesOf' Tryz.prog 50 = 8 := by kernel_rfl
theorem sz52 : szOf Tryz.prog 52 = some 1 := by kernel_rfl
theorem ag52 : aggB Tryz.prog 52 = some false := by kernel_rfl
theorem ze52 : zeroL Tryz.prog 52 = some [.nilFunc] := by kernel_rfl
theorem by52 : bytesOf' Tryz.prog 52 = 8 := by kernel_rfl
theorem sz53 : szOf Tryz.prog 53 = some 1 := by kernel_rfl
theorem ag53 : aggB Tryz.prog 53 = some false := by kernel_rfl
theorem ze53 : zeroL Tryz.prog 53 = some [.nilFunc] := by kernel_rfl
theorem by53 : bytesOf' Tryz.prog 53 = 8 := by kernel_rfl
theorem sz54 : szOf Tryz.prog 54 = some 1 := by kernel_rfl
theorem ag54 : aggB Tryz.prog 54 = some false := by kernel_rfl
theorem ze54 : zeroL Tryz.prog 54 = some [.nilFunc] := by kernel_rfl
theorem by54 : bytesOf' Tryz.prog 54 = 8 := by kernel_rfl
theorem sz55 : szOf Tryz.prog 55 = some 1 := by kernel_rfl
theorem ag55 : aggB Tryz.prog 55 = some false := by kernel_rfl
theorem ze55 : zeroL Tryz.prog 55 = some [.pointer none] := by kernel_rfl
theorem by55 : bytesOf' Tryz.prog 55 = 8 := by kernel_rfl
theorem sz56 : szOf Tryz.prog 56 = some 1 := by kernel_rfl
theorem ag56 : aggB Tryz.prog 56 = some false := by kernel_rfl
theorem ze56 : zeroL Tryz.prog 56 = some [.nilFunc] := by kernel_rfl
theorem by56 : bytesOf' Tryz.prog 56 = 8 := by kernel_rfl
theorem sz57 : szOf Tryz.prog 57 = some 1 := by kernel_rfl
theorem ag57 : aggB Tryz.prog 57 = some false := by kernel_rfl
theorem ze57 : zeroL Tryz.prog 57 = some [.nilFunc] := by kernel_rfl
theorem by57 : bytesOf' Tryz.prog 57 = 8 := by kernel_rfl
theorem sz58 : szOf Tryz.prog 58 = some 2 := by kernel_rfl
theorem ag58 : aggB Tryz.prog 58 = some true := by kernel_rfl
theorem ze58 : zeroL Tryz.prog 58 = some [.int .i64 0, .int .i64 0] := by kernel_rfl
theorem by58 : bytesOf' Tryz.prog 58 = 16 := by kernel_rfl
theorem fa58_0 (b o : Nat) : cfa Tryz.prog 58 0 (.pointer (some ⟨b, o, none⟩)) = some (.pointer (some ⟨b, o, none⟩)) := by kernel_rfl
theorem fz58_0 (b : Nat) : cfa Tryz.prog 58 0 (.pointer (some ⟨b, 0, none⟩)) = some (.pointer (some ⟨b, 0, none⟩)) := by kernel_rfl
theorem fa58_1 (b o : Nat) : cfa Tryz.prog 58 1 (.pointer (some ⟨b, o, none⟩)) = some (.pointer (some ⟨b, o + 1, none⟩)) := by kernel_rfl
theorem fz58_1 (b : Nat) : cfa Tryz.prog 58 1 (.pointer (some ⟨b, 0, none⟩)) = some (.pointer (some ⟨b, 1, none⟩)) := by kernel_rfl
theorem sz59 : szOf Tryz.prog 59 = some 2 := by kernel_rfl
theorem ag59 : aggB Tryz.prog 59 = some true := by kernel_rfl
theorem ze59 : zeroL Tryz.prog 59 = some [.int .i64 0, .int .i64 0] := by kernel_rfl
theorem by59 : bytesOf' Tryz.prog 59 = 16 := by kernel_rfl
theorem fa59_0 (b o : Nat) : cfa Tryz.prog 59 0 (.pointer (some ⟨b, o, none⟩)) = some (.pointer (some ⟨b, o, none⟩)) := by kernel_rfl
theorem fz59_0 (b : Nat) : cfa Tryz.prog 59 0 (.pointer (some ⟨b, 0, none⟩)) = some (.pointer (some ⟨b, 0, none⟩)) := by kernel_rfl
theorem fa59_1 (b o : Nat) : cfa Tryz.prog 59 1 (.pointer (some ⟨b, o, none⟩)) = some (.pointer (some ⟨b, o + 1, none⟩)) := by kernel_rfl
theorem fz59_1 (b : Nat) : cfa Tryz.prog 59 1 (.pointer (some ⟨b, 0, none⟩)) = some (.pointer (some ⟨b, 1, none⟩)) := by kernel_rfl
theorem sz61 : szOf Tryz.prog 61 = some 1 := by kernel_rfl
theorem ag61 : aggB Tryz.prog 61 = some false := by kernel_rfl
theorem ze61 : zeroL Tryz.prog 61 = some [.nilFunc] := by kernel_rfl
theorem by61 : bytesOf' Tryz.prog 61 = 8 := by kernel_rfl
theorem sz62 : szOf Tryz.prog 62 = some 1 := by kernel_rfl
theorem ag62 : aggB Tryz.prog 62 = some false := by kernel_rfl
theorem ze62 : zeroL Tryz.prog 62 = some [.nilFunc] := by kernel_rfl
theorem by62 : bytesOf' Tryz.prog 62 = 8 := by kernel_rfl
theorem sz63 : szOf Tryz.prog 63 = some 1 := by kernel_rfl
theorem ag63 : aggB Tryz.prog 63 = some false := by kernel_rfl
theorem ze63 : zeroL Tryz.prog 63 = some [.slice none 0 0] := by kernel_rfl
theorem by63 : bytesOf' Tryz.prog 63 = 24 := by kernel_rfl
theorem ap63 : appArg Tryz.prog 63 = true := by kernel_rfl
theorem sz65 : szOf Tryz.prog 65 = some 1 := by kernel_rfl
theorem ag65 : aggB Tryz.prog 65 = some false := by kernel_rfl
theorem ze65 : zeroL Tryz.prog 65 = some [.nilFunc] := by kernel_rfl
theorem by65 : bytesOf' Tryz.prog 65 = 8 := by kernel_rfl
theorem sz66 : szOf Tryz.prog 66 = some 1 := by kernel_rfl
theorem ag66 : aggB Tryz.prog 66 = some false := by kernel_rfl
theorem ze66 : zeroL Tryz.prog 66 = some [.nilFunc] := by kernel_rfl
theorem by66 : bytesOf' Tryz.prog 66 = 8 := by kernel_rfl
theorem sz67 : szOf Tryz.prog 67 = some 1 := by kernel_rfl
theorem ag67 : aggB Tryz.prog 67 = some false := by kernel_rfl
theorem ze67 : zeroL Tryz.prog 67 = some [.nilFunc] := by kernel_rfl
theorem by67 : bytesOf' Tryz.prog 67 = 8 := by kernel_rfl
theorem sz68 : szOf Tryz.prog 68 = some 1 := by kernel_rfl
theorem ag68 : aggB Tryz.prog 68 = some false := by kernel_rfl
theorem ze68 : zeroL Tryz.prog 68 = some [.pointer none] := by kernel_rfl
theorem by68 : bytesOf' Tryz.prog 68 = 8 := by kernel_rfl
theorem sz69 : szOf Tryz.prog 69 = some 1 := by kernel_rfl
theorem ag69 : aggB Tryz.prog 69 = some false := by kernel_rfl
theorem ze69 : zeroL Tryz.prog 69 = some [.nilFunc] := by kernel_rfl
theorem by69 : bytesOf' Tryz.prog 69 = 8 := by kernel_rfl
theorem sz70 : szOf Tryz.prog 70 = some 1 := by kernel_rfl
theorem ag70 : aggB Tryz.prog 70 = some false := by kernel_rfl
theorem ze70 : zeroL Tryz.prog 70 = some [.nilFunc] := by kernel_rfl
theorem by70 : bytesOf' Tryz.prog 70 = 8 := by kernel_rfl
theorem sz71 : szOf Tryz.prog 71 = some 1 := by kernel_rfl
theorem ag71 : aggB Tryz.prog 71 = some false := by kernel_rfl
theorem ze71 : zeroL Tryz.prog 71 = some [.nilFunc] := by kernel_rfl
theorem by71 : bytesOf' Tryz.prog 71 = 8 := by kernel_rfl
theorem sz72 : szOf Tryz.prog 72 = some 1 := by kernel_rfl
theorem ag72 : aggB Tryz.prog 72 = some false := by kernel_rfl
theorem ze72 : zeroL Tryz.prog 72 = some [.nilFunc] := by kernel_rfl
theorem by72 : bytesOf' Tryz.prog 72 = 8 := by kernel_rfl
theorem sz73 : szOf Tryz.prog 73 = some 1 := by kernel_rfl
theorem ag73 : aggB Tryz.prog 73 = some false := by kernel_rfl
theorem ze73 : zeroL Tryz.prog 73 = some [.nilFunc] := by kernel_rfl
theorem by73 : bytesOf' Tryz.prog 73 = 8 := by kernel_rfl
theorem sz74 : szOf Tryz.prog 74 = some 1 := by kernel_rfl
theorem ag74 : aggB Tryz.prog 74 = some false := by kernel_rfl
theorem ze74 : zeroL Tryz.prog 74 = some [.nilFunc] := by kernel_rfl
theorem by74 : bytesOf' Tryz.prog 74 = 8 := by kernel_rfl
theorem sz75 : szOf Tryz.prog 75 = some 1 := by kernel_rfl
theorem ag75 : aggB Tryz.prog 75 = some false := by kernel_rfl
theorem ze75 : zeroL Tryz.prog 75 = some [.nilFunc] := by kernel_rfl
theorem by75 : bytesOf' Tryz.prog 75 = 8 := by kernel_rfl
theorem sz76 : szOf Tryz.prog 76 = some 1 := by kernel_rfl
theorem ag76 : aggB Tryz.prog 76 = some false := by kernel_rfl
theorem ze76 : zeroL Tryz.prog 76 = some [.nilFunc] := by kernel_rfl
theorem by76 : bytesOf' Tryz.prog 76 = 8 := by kernel_rfl
theorem sz78 : szOf Tryz.prog 78 = some 1 := by kernel_rfl
theorem ag78 : aggB Tryz.prog 78 = some false := by kernel_rfl
theorem ze78 : zeroL Tryz.prog 78 = some [.nilFunc] := by kernel_rfl
theorem by78 : bytesOf' Tryz.prog 78 = 8 := by kernel_rfl
theorem sz79 : szOf Tryz.prog 79 = some 5 := by kernel_rfl
theorem ag79 : aggB Tryz.prog 79 = some true := by kernel_rfl
theorem ze79 : zeroL Tryz.prog 79 = some [.string ⟨#[]⟩, .int .i64 0, .int .i64 0, .int .i64 0, .int .i64 0] := by kernel_rfl
theorem by79 : bytesOf' Tryz.prog 79 = 48 := by kernel_rfl
theorem fa79_0 (b o : Nat) : cfa Tryz.prog 79 0 (.pointer (some ⟨b, o, none⟩)) = some (.pointer (some ⟨b, o, none⟩)) := by kernel_rfl
theorem fz79_0 (b : Nat) : cfa Tryz.prog 79 0 (.pointer (some ⟨b, 0, none⟩)) = some (.pointer (some ⟨b, 0, none⟩)) := by kernel_rfl
theorem fa79_1 (b o : Nat) : cfa Tryz.prog 79 1 (.pointer (some ⟨b, o, none⟩)) = some (.pointer (some ⟨b, o + 1, none⟩)) := by kernel_rfl
theorem fz79_1 (b : Nat) : cfa Tryz.prog 79 1 (.pointer (some ⟨b, 0, none⟩)) = some (.pointer (some ⟨b, 1, none⟩)) := by kernel_rfl
theorem fa79_2 (b o : Nat) : cfa Tryz.prog 79 2 (.pointer (some ⟨b, o, none⟩)) = some (.pointer (some ⟨b, o + 2, none⟩)) := by kernel_rfl
theorem fz79_2 (b : Nat) : cfa Tryz.prog 79 2 (.pointer (some ⟨b, 0, none⟩)) = some (.pointer (some ⟨b, 2, none⟩)) := by kernel_rfl
theorem fa79_3 (b o : Nat) : cfa Tryz.prog 79 3 (.pointer (some ⟨b, o, none⟩)) = some (.pointer (some ⟨b, o + 3, none⟩)) := by kernel_rfl
theorem fz79_3 (b : Nat) : cfa Tryz.prog 79 3 (.pointer (some ⟨b, 0, none⟩)) = some (.pointer (some ⟨b, 3, none⟩)) := by kernel_rfl
theorem fa79_4 (b o : Nat) : cfa Tryz.prog 79 4 (.pointer (some ⟨b, o, none⟩)) = some (.pointer (some ⟨b, o + 4, none⟩)) := by kernel_rfl
theorem fz79_4 (b : Nat) : cfa Tryz.prog 79 4 (.pointer (some ⟨b, 0, none⟩)) = some (.pointer (some ⟨b, 4, none⟩)) := by kernel_rfl
theorem sz80 : szOf Tryz.prog 80 = some 5 := by kernel_rfl
theorem ag80 : aggB Tryz.prog 80 = some true := by kernel_rfl
theorem ze80 : zeroL Tryz.prog 80 = some [.string ⟨#[]⟩, .int .i64 0, .int .i64 0, .int .i64 0, .int .i64 0] := by kernel_rfl
theorem by80 : bytesOf' Tryz.prog 80 = 48 := by kernel_rfl
theorem fa80_0 (b o : Nat) : cfa Tryz.prog 80 0 (.pointer (some ⟨b, o, none⟩)) = some (.pointer (some ⟨b, o, none⟩)) := by kernel_rfl
theorem fz80_0 (b : Nat) : cfa Tryz.prog 80 0 (.pointer (some ⟨b, 0, none⟩)) = some (.pointer (some ⟨b, 0, none⟩)) := by kernel_rfl
theorem fa80_1 (b o : Nat) : cfa Tryz.prog 80 1 (.pointer (some ⟨b, o, none⟩)) = some (.pointer (some ⟨b, o + 1, none⟩)) := by kernel_rfl
theorem fz80_1 (b : Nat) : cfa Tryz.prog 80 1 (.pointer (some ⟨b, 0, none⟩)) = some (.pointer (some ⟨b, 1, none⟩)) := by kernel_rfl
theorem fa80_2 (b o : Nat) : cfa Tryz.prog 80 2 (.pointer (some ⟨b, o, none⟩)) = some (.pointer (some ⟨b, o + 2, none⟩)) := by kernel_rfl
theorem fz80_2 (b : Nat) : cfa Tryz.prog 80 2 (.pointer (some ⟨b, 0, none⟩)) = some (.pointer (some ⟨b, 2, none⟩)) := by kernel_rfl
theorem fa80_3 (b o : Nat) : cfa Tryz.prog 80 3 (.pointer (some ⟨b, o, none⟩)) = some (.pointer (some ⟨b, o + 3, none⟩)) := by kernel_rfl
theorem fz80_3 (b : Nat) : cfa Tryz.prog 80 3 (.pointer (some ⟨b, 0, none⟩)) = some (.pointer (some ⟨b, 3, none⟩)) := by kernel_rfl
theorem fa80_4 (b o : Nat) : cfa Tryz.prog 80 4 (.pointer (some ⟨b, o, none⟩)) = some (.pointer (some ⟨b, o + 4, none⟩)) := by kernel_rfl
theorem fz80_4 (b : Nat) : cfa Tryz.prog 80 4 (.pointer (some ⟨b, 0, none⟩)) = some (.pointer (some ⟨b, 4, none⟩)) := by kernel_rfl
theorem sz81 : szOf Tryz.prog 81 = some 1 := by kernel_rfl
theorem ag81 : aggB Tryz.prog 81 = some false := by kernel_rfl
theorem ze81 : zeroL Tryz.prog 81 = some [.nilFunc] := by kernel_rfl
theorem by81 : bytesOf' Tryz.prog 81 = 8 := by kernel_rfl
theorem sz82 : szOf Tryz.prog 82 = some 1 := by kernel_rfl
theorem ag82 : aggB Tryz.prog 82 = some false := by kernel_rfl
theorem ze82 : zeroL Tryz.prog 82 = some [.nilFunc] := by kernel_rfl
theorem by82 : bytesOf' Tryz.prog 82 = 8 := by kernel_rfl
theorem sz83 : szOf Tryz.prog 83 = some 1 := by kernel_rfl
theorem ag83 : aggB Tryz.prog 83 = some false := by kernel_rfl
theorem ze83 : zeroL Tryz.prog 83 = some [.nilFunc] := by kernel_rfl
theorem by83 : bytesOf' Tryz.prog 83 = 8 := by kernel_rfl
theorem sz84 : szOf Tryz.prog 84 = some 2 := by kernel_rfl
theorem ag84 : aggB Tryz.prog 84 = some true := by kernel_rfl
theorem ze84 : zeroL Tryz.prog 84 = some [.string ⟨#[]⟩, .slice none 0 0] := by kernel_rfl
theorem by84 : bytesOf' Tryz.prog 84 = 40 := by kernel_rfl
theorem fa84_0 (b o : Nat) : cfa Tryz.prog 84 0 (.pointer (some ⟨b, o, none⟩)) = some (.pointer (some ⟨b, o, none⟩)) := by kernel_rfl
theorem fz84_0 (b : Nat) : cfa Tryz.prog 84 0 (.pointer (some ⟨b, 0, none⟩)) = some (.pointer (some ⟨b, 0, none⟩)) := by kernel_rfl
theorem fa84_1 (b o : Nat) : cfa Tryz.prog 84 1 (.pointer (some ⟨b, o, none⟩)) = some (.pointer (some ⟨b, o + 1, none⟩)) := by kernel_rfl
theorem fz84_1 (b : Nat) : cfa Tryz.prog 84 1 (.pointer (some ⟨b, 0, none⟩)) = some (.pointer (some ⟨b, 1, none⟩)) := by kernel_rfl
theorem sz85 : szOf Tryz.prog 85 = some 2 := by kernel_rfl
theorem ag85 : aggB Tryz.prog 85 = some true := by kernel_rfl
theorem ze85 : zeroL Tryz.prog 85 = some [.string ⟨#[]⟩, .slice none 0 0] := by kernel_rfl
theorem by85 : bytesOf' Tryz.prog 85 = 40 := by kernel_rfl
theorem fa85_0 (b o : Nat) : cfa Tryz.prog 85 0 (.pointer (some ⟨b, o, none⟩)) = some (.pointer (some ⟨b, o, none⟩)) := by kernel_rfl
theorem fz85_0 (b : Nat) : cfa Tryz.prog 85 0 (.pointer (some ⟨b, 0, none⟩)) = some (.pointer (some ⟨b, 0, none⟩)) := by kernel_rfl
theorem fa85_1 (b o : Nat) : cfa Tryz.prog 85 1 (.pointer (some ⟨b, o, none⟩)) = some (.pointer (some ⟨b, o + 1, none⟩)) := by kernel_rfl
theorem fz85_1 (b : Nat) : cfa Tryz.prog 85 1 (.pointer (some ⟨b, 0, none⟩)) = some (.pointer (some ⟨b, 1, none⟩)) := by kernel_rfl
theorem sz86 : szOf Tryz.prog 86 = some 1 := by kernel_rfl
theorem ag86 : aggB Tryz.prog 86 = some false := by kernel_rfl
theorem ze86 : zeroL Tryz.prog 86 = some [.nilFunc] := by kernel_rfl
theorem by86 : bytesOf' Tryz.prog 86 = 8 := by kernel_rfl
theorem sz87 : szOf Tryz.prog 87 = some 1 := by kernel_rfl
theorem ag87 : aggB Tryz.prog 87 = some false := by kernel_rfl
theorem ze87 : zeroL Tryz.prog 87 = some [.nilFunc] := by kernel_rfl
theorem by87 : bytesOf' Tryz.prog 87 = 8 := by kernel_rfl
theorem sz88 : szOf Tryz.prog 88 = some 1 := by kernel_rfl
theorem ag88 : aggB Tryz.prog 88 = some false := by kernel_rfl
theorem ze88 : zeroL Tryz.prog 88 = some [.nilFunc] := by kernel_rfl
theorem by88 : bytesOf' Tryz.prog 88 = 8 := by kernel_rfl
theorem sz89 : szOf Tryz.prog 89 = some 1 := by kernel_rfl
theorem ag89 : aggB Tryz.prog 89 = some false := by kernel_rfl
theorem ze89 : zeroL Tryz.prog 89 = some [.nilFunc] := by kernel_rfl
theorem by89 : bytesOf' Tryz.prog 89 = 8 := by kernel_rfl
theorem sz90 : szOf Tryz.prog 90 = some 1 := by kernel_rfl
theorem ag90 : aggB Tryz.prog 90 = some false := by kernel_rfl
theorem ze90 : zeroL Tryz.prog 90 = some [.nilFunc] := by kernel_rfl
theorem by90 : bytesOf' Tryz.prog 90 = 8 := by kernel_rfl
theorem sz91 : szOf Tryz.prog 91 = some 1 := by kernel_rfl
theorem ag91 : aggB Tryz.prog 91 = some false := by kernel_rfl
theorem ze91 : zeroL Tryz.prog 91 = some [.slice none 0 0] := by kernel_rfl
theorem by91 : bytesOf' Tryz.prog 91 = 24 := by kernel_rfl
theorem ap91 : appArg Tryz.prog 91 = true := by kernel_rfl
theorem sz93 : szOf Tryz.prog 93 = some 1 := by kernel_rfl
theorem ag93 : aggB Tryz.prog 93 = some false := by kernel_rfl
theorem ze93 : zeroL Tryz.prog 93 = some [.nilFunc] := by kernel_rfl
theorem by93 : bytesOf' Tryz.prog 93 = 8 := by kernel_rfl
theorem sz94 : szOf Tryz.prog 94 = some 1 := by kernel_rfl
theorem ag94 : aggB Tryz.prog 94 = some false := by kernel_rfl
theorem ze94 : zeroL Tryz.prog 94 = some [.pointer none] := by kernel_rfl
theorem by94 : bytesOf' Tryz.prog 94 = 8 := by kernel_rfl
theorem sz95 : szOf Tryz.prog 95 = some 1 := by kernel_rfl
theorem ag95 : aggB Tryz.prog 95 = some false := by kernel_rfl
theorem ze95 : zeroL Tryz.prog 95 = some [.nilFunc] := by kernel_rfl
theorem by95 : bytesOf' Tryz.prog 95 = 8 := by kernel_rfl
theorem sz96 : szOf Tryz.prog 96 = some 3 := by kernel_rfl
theorem ag96 : aggB Tryz.prog 96 = some true := by kernel_rfl
theorem ze96 : zeroL Tryz.prog 96 = some [.slice none 0 0, .slice none 0 0, .slice none 0 0] := by kernel_rfl
theorem by96 : bytesOf' Tryz.prog 96 = 72 := by kernel_rfl
theorem fa96_0 (b o : Nat) : cfa Tryz.prog 96 0 (.pointer (some ⟨b, o, none⟩)) = some (.pointer (some ⟨b, o, none⟩)) := by kernel_rfl
theorem fz96_0 (b : Nat) : cfa Tryz.prog 96 0 (.pointer (some ⟨b, 0, none⟩)) = some (.pointer (some ⟨b, 0, none⟩)) := by kernel_rfl
theorem fa96_1 (b o : Nat) : cfa Tryz.prog 96 1 (.pointer (some ⟨b, o, none⟩)) = some (.pointer (some ⟨b, o + 1, none⟩)) := by kernel_rfl
theorem fz96_1 (b : Nat) : cfa Tryz.prog 96 1 (.pointer (some ⟨b, 0, none⟩)) = some (.pointer (some ⟨b, 1, none⟩)) := by kernel_rfl
theorem fa96_2 (b o : Nat) : cfa Tryz.prog 96 2 (.pointer (some ⟨b, o, none⟩)) = some (.pointer (some ⟨b, o + 2, none⟩)) := by kernel_rfl
theorem fz96_2 (b : Nat) : cfa Tryz.prog 96 2 (.pointer (some ⟨b, 0, none⟩)) = some (.pointer (some ⟨b, 2, none⟩)) := by kernel_rfl
theorem sz97 : szOf Tryz.prog 97 = some 3 := by kernel_rfl
theorem ag97 : aggB Tryz.prog 97 = some true := by kernel_rfl
theorem ze97 : zeroL Tryz.prog 97 = some [.slice none 0 0, .slice none 0 0, .slice none 0 0] := by kernel_rfl
theorem by97 : bytesOf' Tryz.prog 97 = 72 := by kernel_rfl
theorem fa97_0 (b o : Nat) : cfa Tryz.prog 97 0 (.pointer (some ⟨b, o, none⟩)) = some (.pointer (some ⟨b, o, none⟩)) := by kernel_rfl
theorem fz97_0 (b : Nat) : cfa Tryz.prog 97 0 (.pointer (some ⟨b, 0, none⟩)) = some (.pointer (some ⟨b, 0, none⟩)) := by kernel_rfl
theorem fa97_1 (b o : Nat) : cfa Tryz.prog 97 1 (.pointer (some ⟨b, o, none⟩)) = some (.pointer (some ⟨b, o + 1, none⟩)) := by kernel_rfl
theorem fz97_1 (b : Nat) : cfa Tryz.prog 97 1 (.pointer (some ⟨b, 0, none⟩)) = some (.pointer (some ⟨b, 1, none⟩)) := by kernel_rfl
theorem fa97_2 (b o : Nat) : cfa Tryz.prog 97 2 (.pointer (some ⟨b, o, none⟩)) = some (.pointer (some ⟨b, o + 2, none⟩)) := by kernel_rfl
theorem fz97_2 (b : Nat) : cfa Tryz.prog 97 2 (.pointer (some ⟨b, 0, none⟩)) = some (.pointer (some ⟨b, 2, none⟩)) := by kernel_rfl
theorem sz98 : szOf Tryz.prog 98 = some 10 := by kernel_rfl
theorem ag98 : aggB Tryz.prog 98 = some true := by kernel_rfl
theorem ze98 : zeroL Tryz.prog 98 = some [.int .i64 0, .int .i64 0, .int .i64 0, .int .i64 0, .int .i64 0, .int .i64 0, .int .i64 0, .int .i64 0, .int .i64 0, .int .i64 0] := by kernel_rfl
theorem by98 : bytesOf' Tryz.prog 98 = 80 := by kernel_rfl
theorem sz99 : szOf Tryz.prog 99 = some 10 := by kernel_rfl
theorem ag99 : aggB Tryz.prog 99 = some true := by kernel_rfl
theorem ze99 : zeroL Tryz.prog 99 = some [.int .i64 0, .int .i64 0, .int .i64 0, .int .i64 0, .int .i64 0, .int .i64 0, .int .i64 0, .int .i64 0, .int .i64 0, .int .i64 0] := by kernel_rfl
theorem by99 : bytesOf' Tryz.prog 99 = 80 := by kernel_rfl
theorem sz100 : szOf Tryz.prog 100 = some 25 := by kernel_rfl
theorem ag100 : aggB Tryz.prog 100 = some true := by kernel_rfl
theorem ze100 : zeroL Tryz.prog 100 = some [.slice none 0 0, .slice none 0 0, .slice none 0 0, .int .i64 0, .int .i64 0, .int .i64 0, .int .i64 0, .int .i64 0, .int .i64 0, .int .i64 0, .int .i64 0, .int .i64 0, .int .i64 0, .int .i64 0, .int .i64 0, .int .i64 0, .int .i64 0, .int .i64 0, .int .i64 0, .int .i64 0, .int .i64 0, .int .i64 0, .int .i64 0, .int .i64 0, .int .i64 0] := by kernel_rfl
theorem by100 : bytesOf' Tryz.prog 100 = 248 := by kernel_rfl
theorem fa100_0 (b o : Nat) : cfa Tryz.prog 100 0 (.pointer (some ⟨b, o, none⟩)) = some (.pointer (some ⟨b, o, none⟩)) := by kernel_rfl
theorem fz100_0 (b : Nat) : cfa Tryz.prog 100 0 (.pointer (some ⟨b, 0, none⟩)) = some (.pointer (some ⟨b, 0, none⟩)) := by kernel_rfl
theorem fa100_1 (b o : Nat) : cfa Tryz.prog 100 1 (.pointer (some ⟨b, o, none⟩)) = some (.pointer (some ⟨b, o + 3, none⟩)) := by kernel_rfl
theorem fz100_1 (b : Nat) : cfa Tryz.prog 100 1 (.pointer (some ⟨b, 0, none⟩)) = some (.pointer (some ⟨b, 3, none⟩)) := by kernel_rfl
theorem fa100_2 (b o : Nat) : cfa Tryz.prog 100 2 (.pointer (some ⟨b, o, none⟩)) = some (.pointer (some ⟨b, o + 4, none⟩)) := by kernel_rfl
theorem fz100_2 (b : Nat) : cfa Tryz.prog 100 2 (.pointer (some ⟨b, 0, none⟩)) = some (.pointer (some ⟨b, 4, none⟩)) := by kernel_rfl
theorem fa100_3 (b o : Nat) : cfa Tryz.prog 100 3 (.pointer (some ⟨b, o, none⟩)) = some (.pointer (some ⟨b, o + 5, none⟩)) := by kernel_rfl
theorem fz100_3 (b : Nat) : cfa Tryz.prog 100 3 (.pointer (some ⟨b, 0, none⟩)) = some (.pointer (some ⟨b, 5, none⟩)) := by kernel_rfl
theorem fa100_4 (b o : Nat) : cfa Tryz.prog 100 4 (.pointer (some ⟨b, o, none⟩)) = some (.pointer (some ⟨b, o + 15, none⟩)) := by kernel_rfl
theorem fz100_4 (b : Nat) : cfa Tryz.prog 100 4 (.pointer (some ⟨b, 0, none⟩)) = some (.pointer (some ⟨b, 15, none⟩)) := by kernel_rfl
theorem sz101 : szOf Tryz.prog 101 = some 25 := by kernel_rfl
theorem ag101 : aggB Tryz.prog 101 = some true := by kernel_rfl
theorem ze101 : zeroL Tryz.prog 101 = some [.slice none 0 0, .slice none 0 0, .slice none 0 0, .int .i64 0, .int .i64 0, .int .i64 0, .int .i64 0, .int .i64 0, .int .i64 0, .int .i64 0, .int .i64 0, .int .i64 0, .int .i64 0, .int .i64 0, .int .i64 0, .int .i64 0, .int .i64 0, .int .i64 0, .int .i64 0, .int .i64 0, .int .i64 0, .int .i64 0, .int .i64 0, .int .i64 0, .int .i64 0] := by kernel_rfl
theorem by101 : bytesOf' Tryz.prog 101 = 248 := by kernel_rfl
theorem fa101_0 (b o : Nat) : cfa Tryz.prog 101 0 (.pointer (some ⟨b, o, none⟩)) = some (.pointer (some ⟨b, o, none⟩)) := by kernel_rfl
theorem fz101_0 (b : Nat) : cfa Tryz.prog 101 0 (.pointer (some ⟨b, 0, none⟩)) = some (.pointer (some ⟨b, 0, none⟩)) := by kernel_rfl
theorem fa101_1 (b o : Nat) : cfa Tryz.prog 101 1 (.pointer (some ⟨b, o, none⟩)) = some (.pointer (some ⟨b, o + 3, none⟩)) := by kernel_rfl
theorem fz101_1 (b : Nat) : cfa Tryz.prog 101 1 (.pointer (some ⟨b, 0, none⟩)) = some (.pointer (some ⟨b, 3, none⟩)) := by kernel_rfl
theorem fa101_2 (b o : Nat) : cfa Tryz.prog 101 2 (.pointer (some ⟨b, o, none⟩)) = some (.pointer (some ⟨b, o + 4, none⟩)) := by kernel_rfl
theorem fz101_2 (b : Nat) : cfa Tryz.prog 101 2 (.pointer (some ⟨b, 0, none⟩)) = some (.pointer (some ⟨b, 4, none⟩)) := by kernel_rfl
theorem fa101_3 (b o : Nat) : cfa Tryz.prog 101 3 (.pointer (some ⟨b, o, none⟩)) = some (.pointer (some ⟨b, o + 5, none⟩)) := by kernel_rfl
theorem fz101_3 (b : Nat) : cfa Tryz.prog 101 3 (.pointer (some ⟨b, 0, none⟩)) = some (.pointer (some ⟨b, 5, none⟩)) := by kernel_rfl
theorem fa101_4 (b o : Nat) : cfa Tryz.prog 101 4 (.pointer (some ⟨b, o, none⟩)) = some (.pointer (some ⟨b, o + 15, none⟩)) := by kernel_rfl
theorem fz101_4 (b : Nat) : cfa Tryz.prog 101 4 (.pointer (some ⟨b, 0, none⟩)) = some (.pointer (some ⟨b, 15, none⟩)) := by kernel_rfl
theorem sz102 : szOf Tryz.prog 102 = some 1 := by kernel_rfl
theorem ag102 : aggB Tryz.prog 102 = some false := by kernel_rfl
theorem ze102 : zeroL Tryz.prog 102 = some [.nilFunc] := by kernel_rfl
theorem by102 : bytesOf' Tryz.prog 102 = 8 := by kernel_rfl
theorem sz103 : szOf Tryz.prog 103 = some 1 := by kernel_rfl
theorem ag103 : aggB Tryz.prog 103 = some false := by kernel_rfl
theorem ze103 : zeroL Tryz.prog 103 = some [.nilFunc] := by kernel_rfl
theorem by103 : bytesOf' Tryz.prog 103 = 8 := by kernel_rfl
theorem sz104 : szOf Tryz.prog 104 = some 1 := by kernel_rfl
theorem ag104 : aggB Tryz.prog 104 = some false := by kernel_rfl
theorem ze104 : zeroL Tryz.prog 104 = some [.nilFunc] := by kernel_rfl
theorem by104 : bytesOf' Tryz.prog 104 = 8 := by kernel_rfl
theorem sz105 : szOf Tryz.prog 105 = some 1 := by kernel_rfl
theorem ag105 : aggB Tryz.prog 105 = some false := by kernel_rfl
theorem ze105 : zeroL Tryz.prog 105 = some [.nilFunc] := by kernel_rfl
theorem by105 : bytesOf' Tryz.prog 105 = 8 := by kernel_rfl
theorem sz106 : szOf Tryz.prog 106 = some 1 := by kernel_rfl
theorem ag106 : aggB Tryz.prog 106 = some false := by kernel_rfl
theorem ze106 : zeroL Tryz.prog 106 = some [.nilFunc] := by kernel_rfl
theorem by106 : bytesOf' Tryz.prog 106 = 8 := by kernel_rfl
theorem sz107 : szOf Tryz.prog 107 = some 1 := by kernel_rfl
theorem ag107 : aggB Tryz.prog 107 = some false := by kernel_rfl
theorem ze107 : zeroL Tryz.prog 107 = some [.nilFunc] := by kernel_rfl
theorem by107 : bytesOf' Tryz.prog 107 = 8 := by kernel_rfl
theorem sz108 : szOf Tryz.prog 108 = some 1 := by kernel_rfl
theorem ag108 : aggB Tryz.prog 108 = some false := by kernel_rfl
theorem ze108 : zeroL Tryz.prog 108 = some [.nilFunc] := by kernel_rfl
theorem by108 : bytesOf' Tryz.prog 108 = 8 := by kernel_rfl
theorem sz109 : szOf Tryz.prog 109 = some 1 := by kernel_rfl
theorem ag109 : aggB Tryz.prog 109 = some false := by kernel_rfl
theorem ze109 : zeroL Tryz.prog 109 = some [.nilFunc] := by kernel_rfl
theorem by109 : bytesOf' Tryz.prog 109 = 8 := by kernel_rfl
theorem sz110 : szOf Tryz.prog 110 = some 1 := by kernel_rfl
theorem ag110 : aggB Tryz.prog 110 = some false := by kernel_rfl
theorem ze110 : zeroL Tryz.prog 110 = some [.nilFunc] := by kernel_rfl
theorem by110 : bytesOf' Tryz.prog 110 = 8 := by kernel_rfl
theorem sz111 : szOf Tryz.prog 111 = some 1 := by kernel_rfl
theorem ag111 : aggB Tryz.prog 111 = some false := by kernel_rfl
theorem ze111 : zeroL Tryz.prog 111 = some [.nilFunc] := by kernel_rfl
theorem by111 : bytesOf' Tryz.prog 111 = 8 := by kernel_rfl
theorem sz112 : szOf Tryz.prog 112 = some 1 := by kernel_rfl
theorem ag112 : aggB Tryz.prog 112 = some false := by kernel_rfl
theorem ze112 : zeroL Tryz.prog 112 = some [.nilFunc] := by kernel_rfl
theorem by112 : bytesOf' Tryz.prog 112 = 8 := by kernel_rfl
theorem sz113 : szOf Tryz.prog 113 = some 1 := by kernel_rfl
theorem ag113 : aggB Tryz.prog 113 = some false := by kernel_rfl
theorem ze113 : zeroL Tryz.prog 113 = some [.nilFunc] := by kernel_rfl
theorem by113 : bytesOf' Tryz.prog 113 = 8 := by kernel_rfl
theorem sz114 : szOf Tryz.prog 114 = some 1 := by kernel_rfl
theorem ag114 : aggB Tryz.prog 114 = some false := by kernel_rfl
theorem ze114 : zeroL Tryz.prog 114 = some [.nilFunc] := by kernel_rfl
theorem by114 : bytesOf' Tryz.prog 114 = 8 := by kernel_rfl
theorem sz115 : szOf Tryz.prog 115 = some 1 := by kernel_rfl
theorem ag115 : aggB Tryz.prog 115 = some false := by kernel_rfl
theorem ze115 : zeroL Tryz.prog 115 = some [.nilFunc] := by kernel_rfl
theorem by115 : bytesOf' Tryz.prog 115 = 8 := by kernel_rfl
theorem sz116 : szOf Tryz.prog 116 = some 1 := by kernel_rfl
theorem ag116 : aggB Tryz.prog 116 = some false := by kernel_rfl
theorem ze116 : zeroL Tryz.prog 116 = some [.nilFunc] := by kernel_rfl
theorem by116 : bytesOf' Tryz.prog 116 = 8 := by kernel_rfl
theorem sz117 : szOf Tryz.prog 117 = some 1 := by kernel_rfl
theorem ag117 : aggB Tryz.prog 117 = some false := by kernel_rfl
theorem ze117 : zeroL Tryz.prog 117 = some [.nilFunc] := by kernel_rfl
theorem by117 : bytesOf' Tryz.prog 117 = 8 := by kernel_rfl
theorem sz118 : szOf Tryz.prog 118 = some 1 := by kernel_rfl
theorem ag118 : aggB Tryz.prog 118 = some false := by kernel_rfl
theorem ze118 : zeroL Tryz.prog 118 = some [.nilFunc] := by kernel_rfl
theorem by118 : bytesOf' Tryz.prog 118 = 8 := by kernel_rfl
theorem sz119 : szOf Tryz.prog 119 = some 1 := by kernel_rfl
theorem ag119 : aggB Tryz.prog 119 = some false := by kernel_rfl
theorem ze119 : zeroL Tryz.prog 119 = some [.nilFunc] := by kernel_rfl
theorem by119 : bytesOf' Tryz.prog 119 = 8 := by kernel_rfl
theorem sz120 : szOf Tryz.prog 120 = some 1 := by kernel_rfl
theorem ag120 : aggB Tryz.prog 120 = some false := by kernel_rfl
theorem ze120 : zeroL Tryz.prog 120 = some [.nilFunc] := by kernel_rfl
theorem by120 : bytesOf' Tryz.prog 120 = 8 := by kernel_rfl
theorem sz121 : szOf Tryz.prog 121 = some 1 := by kernel_rfl
theorem ag121 : aggB Tryz.prog 121 = some false := by kernel_rfl
theorem ze121 : zeroL Tryz.prog 121 = some [.nilFunc] := by kernel_rfl
theorem by121 : bytesOf' Tryz.prog 121 = 8 := by kernel_rfl
theorem sz122 : szOf Tryz.prog 122 = some 1 := by kernel_rfl
theorem ag122 : aggB Tryz.prog 122 = some false := by kernel_rfl
theorem ze122 : zeroL Tryz.prog 122 = some [.nilFunc] := by kernel_rfl
theorem by122 : bytesOf' Tryz.prog 122 = 8 := by kernel_rfl
theorem sz123 : szOf Tryz.prog 123 = some 1 := by kernel_rfl
theorem ag123 : aggB Tryz.prog 123 = some false := by kernel_rfl
theorem ze123 : zeroL Tryz.prog 123 = some [.nilFunc] := by kernel_rfl
theorem by123 : bytesOf' Tryz.prog 123 = 8 := by kernel_rfl
theorem sz124 : szOf Tryz.prog 124 = some 1 := by kernel_rfl
theorem ag124 : aggB Tryz.prog 124 = some false := by kernel_rfl
theorem ze124 : zeroL Tryz.prog 124 = some [.nilFunc] := by kernel_rfl
theorem by124 : bytesOf' Tryz.prog 124 = 8 := by kernel_rfl
theorem sz125 : szOf Tryz.prog 125 = some 1 := by kernel_rfl
theorem ag125 : aggB Tryz.prog 125 = some false := by kernel_rfl
theorem ze125 : zeroL Tryz.prog 125 = some [.nilFunc] := by kernel_rfl
theorem by125 : bytesOf' Tryz.prog 125 = 8 := by kernel_rfl
theorem sz126 : szOf Tryz.prog 126 = some 1 := by kernel_rfl
theorem ag126 : aggB Tryz.prog 126 = some false := by kernel_rfl
theorem ze126 : zeroL Tryz.prog 126 = some [.nilFunc] := by kernel_rfl
theorem by126 : bytesOf' Tryz.prog 126 = 8 := by kernel_rfl
theorem sz127 : szOf Tryz.prog 127 = some 1 := by kernel_rfl
theorem ag127 : aggB Tryz.prog 127 = some false := by kernel_rfl
theorem ze127 : zeroL Tryz.prog 127 = some [.nilFunc] := by kernel_rfl
theorem by127 : bytesOf' Tryz.prog 127 = 8 := by kernel_rfl
theorem sz128 : szOf Tryz.prog 128 = some 1 := by kernel_rfl
theorem ag128 : aggB Tryz.prog 128 = some false := by kernel_rfl
theorem ze128 : zeroL Tryz.prog 128 = some [.nilFunc] := by kernel_rfl
theorem by128 : bytesOf' Tryz.prog 128 = 8 := by kernel_rfl
theorem sz129 : szOf Tryz.prog 129 = some 1 := by kernel_rfl
theorem ag129 : aggB Tryz.prog 129 = some false := by kernel_rfl
theorem ze129 : zeroL Tryz.prog 129 = some [.nilFunc] := by kernel_rfl
theorem by129 : bytesOf' Tryz.prog 129 = 8 := by kernel_rfl
theorem sz130 : szOf Tryz.prog 130 = some 1 := by kernel_rfl
theorem ag130 : aggB Tryz.prog 130 = some false := by kernel_rfl
theorem ze130 : zeroL Tryz.prog 130 = some [.nilFunc] := by kernel_rfl
theorem by130 : bytesOf' Tryz.prog 130 = 8 := by kernel_rfl
theorem sz131 : szOf Tryz.prog 131 = some 1 := by kernel_rfl
theorem ag131 : aggB Tryz.prog 131 = some false := by kernel_rfl
theorem ze131 : zeroL Tryz.prog 131 = some [.nilFunc] := by kernel_rfl
theorem by131 : bytesOf' Tryz.prog 131 = 8 := by kernel_rfl
theorem sz132 : szOf Tryz.prog 132 = some 1 := by kernel_rfl
theorem ag132 : aggB Tryz.prog 132 = some false := by kernel_rfl
theorem ze132 : zeroL Tryz.prog 132 = some [.nilFunc] := by kernel_rfl
theorem by132 : bytesOf' Tryz.prog 132 = 8 := by kernel_rfl
theorem sz133 : szOf Tryz.prog 133 = some 1 := by kernel_rfl
theorem ag133 : aggB Tryz.prog 133 = some false := by kernel_rfl
theorem ze133 : zeroL Tryz.prog 133 = some [.nilFunc] := by kernel_rfl
theorem by133 : bytesOf' Tryz.prog 133 = 8 := by kernel_rfl
theorem sz134 : szOf Tryz.prog 134 = some 1 := by kernel_rfl
theorem ag134 : aggB Tryz.prog 134 = some false := by kernel_rfl
theorem ze134 : zeroL Tryz.prog 134 = some [.nilFunc] := by kernel_rfl
theorem by134 : bytesOf' Tryz.prog 134 = 8 := by kernel_rfl
theorem sz135 : szOf Tryz.prog 135 = some 1 := by kernel_rfl
theorem ag135 : aggB Tryz.prog 135 = some false := by kernel_rfl
theorem ze135 : zeroL Tryz.prog 135 = some [.nilFunc] := by kernel_rfl
theorem by135 : bytesOf' Tryz.prog 135 = 8 := by kernel_rfl
theorem sz136 : szOf Tryz.prog 136 = some 1 := by kernel_rfl
theorem ag136 : aggB Tryz.prog 136 = some false := by kernel_rfl
theorem ze136 : zeroL Tryz.prog 136 = some [.nilFunc] := by kernel_rfl
theorem by136 : bytesOf' Tryz.prog 136 = 8 := by kernel_rfl
theorem sz137 : szOf Tryz.prog 137 = some 1 := by kernel_rfl
theorem ag137 : aggB Tryz.prog 137 = some false := by kernel_rfl
theorem ze137 : zeroL Tryz.prog 137 = some [.nilFunc] := by kernel_rfl
theorem by137 : bytesOf' Tryz.prog 137 = 8 := by kernel_rfl
theorem sz138 : szOf Tryz.prog 138 = some 1 := by kernel_rfl
theorem ag138 : aggB Tryz.prog 138 = some false := by kernel_rfl
theorem ze138 : zeroL Tryz.prog 138 = some [.nilFunc] := by kernel_rfl
theorem by138 : bytesOf' Tryz.prog 138 = 8 := by kernel_rfl
theorem sz139 : szOf Tryz.prog 139 = some 1 := by kernel_rfl
theorem ag139 : aggB Tryz.prog 139 = some false := by kernel_rfl
theorem ze139 : zeroL Tryz.prog 139 = some [.nilFunc] := by kernel_rfl
theorem by139 : bytesOf' Tryz.prog 139 = 8 := by kernel_rfl
theorem sz140 : szOf Tryz.prog 140 = some 1 := by kernel_rfl
theorem ag140 : aggB Tryz.prog 140 = some false := by kernel_rfl
theorem ze140 : zeroL Tryz.prog 140 = some [.nilFunc] := by kernel_rfl
theorem by140 : bytesOf' Tryz.prog 140 = 8 := by kernel_rfl
theorem sz141 : szOf Tryz.prog 141 = some 1 := by kernel_rfl
theorem ag141 : aggB Tryz.prog 141 = some false := by kernel_rfl
theorem ze141 : zeroL Tryz.prog 141 = some [.nilFunc] := by kernel_rfl
theorem by141 : bytesOf' Tryz.prog 141 = 8 := by kernel_rfl
theorem sz142 : szOf Tryz.prog 142 = some 1 := by kernel_rfl
theorem ag142 : aggB Tryz.prog 142 = some false := by kernel_rfl
theorem ze142 : zeroL Tryz.prog 142 = some [.pointer none] := by kernel_rfl
theorem by142 : bytesOf' Tryz.prog 142 = 8 := by kernel_rfl
theorem sz143 : szOf Tryz.prog 143 = some 1 := by kernel_rfl
theorem ag143 : aggB Tryz.prog 143 = some false := by kernel_rfl
theorem ze143 : zeroL Tryz.prog 143 = some [.nilFunc] := by kernel_rfl
theorem by143 : bytesOf' Tryz.prog 143 = 8 := by kernel_rfl
theorem sz144 : szOf Tryz.prog 144 = some 1 := by kernel_rfl
theorem ag144 : aggB Tryz.prog 144 = some false := by kernel_rfl
theorem ze144 : zeroL Tryz.prog 144 = some [.pointer none] := by kernel_rfl
theorem by144 : bytesOf' Tryz.prog 144 = 8 := by kernel_rfl
theorem sz145 : szOf Tryz.prog 145 = some 1 := by kernel_rfl
theorem ag145 : aggB Tryz.prog 145 = some false := by kernel_rfl
theorem ze145 : zeroL Tryz.prog 145 = some [.int .u64 0] := by kernel_rfl
theorem by145 : bytesOf' Tryz.prog 145 = 8 := by kernel_rfl
theorem sz146 : szOf Tryz.prog 146 = some 1 := by kernel_rfl
theorem ag146 : aggB Tryz.prog 146 = some false := by kernel_rfl
theorem ze146 : zeroL Tryz.prog 146 = some [.nilFunc] := by kernel_rfl
theorem by146 : bytesOf' Tryz.prog 146 = 8 := by kernel_rfl
theorem sz147 : szOf Tryz.prog 147 = some 1 := by kernel_rfl
theorem ag147 : aggB Tryz.prog 147 = some false := by kernel_rfl
theorem ze147 : zeroL Tryz.prog 147 = some [.nilFunc] := by kernel_rfl
theorem by147 : bytesOf' Tryz.prog 147 = 8 := by kernel_rfl
theorem sz148 : szOf Tryz.prog 148 = some 1 := by kernel_rfl
theorem ag148 : aggB Tryz.prog 148 = some false := by kernel_rfl
theorem ze148 : zeroL Tryz.prog 148 = some [.nilFunc] := by kernel_rfl
theorem by148 : bytesOf' Tryz.prog 148 = 8 := by kernel_rfl
theorem sz149 : szOf Tryz.prog 149 = some 1 := by kernel_rfl
theorem ag149 : aggB Tryz.prog 149 = some false := by kernel_rfl
theorem ze149 : zeroL Tryz.prog 149 = some [.nilFunc] := by kernel_rfl
theorem by149 : bytesOf' Tryz.prog 149 = 8 := by kernel_rfl
theorem sz150 : szOf Tryz.prog 150 = some 1 := by kernel_rfl
theorem ag150 : aggB Tryz.prog 150 = some false := by kernel_rfl
theorem ze150 : zeroL Tryz.prog 150 = some [.nilFunc] := by kernel_rfl
theorem by150 : bytesOf' Tryz.prog 150 = 8 := by kernel_rfl
theorem sz151 : szOf Tryz.prog 151 = some 1 := by kernel_rfl
theorem ag151 : aggB Tryz.prog 151 = some false := by kernel_rfl
theorem ze151 : zeroL Tryz.prog 151 = some [.nilFunc] := by kernel_rfl
theorem by151 : bytesOf' Tryz.prog 151 = 8 := by kernel_rfl
theorem sz152 : szOf Tryz.prog 152 = some 1 := by kernel_rfl
theorem ag152 : aggB Tryz.prog 152 = some false := by kernel_rfl
theorem ze152 : zeroL Tryz.prog 152 = some [.nilFunc] := by kernel_rfl
theorem by152 : bytesOf' Tryz.prog 152 = 8 := by kernel_rfl
theorem sz153 : szOf Tryz.prog 153 = some 1 := by kernel_rfl
theorem ag153 : aggB Tryz.prog 153 = some false := by kernel_rfl
theorem ze153 : zeroL Tryz.prog 153 = some [.nilFunc] := by kernel_rfl
theorem by153 : bytesOf' Tryz.prog 153 = 8 := by kernel_rfl
theorem sz154 : szOf Tryz.prog 154 = some 1 := by kernel_rfl
theorem ag154 : aggB Tryz.prog 154 = some false := by kernel_rfl
theorem ze154 : zeroL Tryz.prog 154 = some [.nilFunc] := by kernel_rfl
theorem by154 : bytesOf' Tryz.prog 154 = 8 := by kernel_rfl
theorem sz155 : szOf Tryz.prog 155 = some 1 := by kernel_rfl
theorem ag155 : aggB Tryz.prog 155 = some false := by kernel_rfl
theorem ze155 : zeroL Tryz.prog 155 = some [.nilFunc] := by kernel_rfl
theorem by155 : bytesOf' Tryz.prog 155 = 8 := by kernel_rfl
theorem sz156 : szOf Tryz.prog 156 = some 1 := by kernel_rfl
theorem ag156 : aggB Tryz.prog 156 = some false := by kernel_rfl
theorem ze156 : zeroL Tryz.prog 156 = some [.nilFunc] := by kernel_rfl
theorem by156 : bytesOf' Tryz.prog 156 = 8 := by kernel_rfl
theorem sz157 : szOf Tryz.prog 157 = some 4 := by kernel_rfl
theorem ag157 : aggB Tryz.prog 157 = some true := by kernel_rfl
theorem ze157 : zeroL Tryz.prog 157 = some [.pointer none, .pointer none, .pointer none, .string ⟨#[]⟩] := by kernel_rfl
theorem by157 : bytesOf' Tryz.prog 157 = 40 := by kernel_rfl
theorem fa157_0 (b o : Nat) : cfa Tryz.prog 157 0 (.pointer (some ⟨b, o, none⟩)) = some (.pointer (some ⟨b, o, none⟩)) := by kernel_rfl
theorem fz157_0 (b : Nat) : cfa Tryz.prog 157 0 (.pointer (some ⟨b, 0, none⟩)) = some (.pointer (some ⟨b, 0, none⟩)) := by kernel_rfl
theorem fa157_1 (b o : Nat) : cfa Tryz.prog 157 1 (.pointer (some ⟨b, o, none⟩)) = some (.pointer (some ⟨b, o + 1, none⟩)) := by kernel_rfl
theorem fz157_1 (b : Nat) : cfa Tryz.prog 157 1 (.pointer (some ⟨b, 0, none⟩)) = some (.pointer (some ⟨b, 1, none⟩)) := by kernel_rfl
theorem fa157_2 (b o : Nat) : cfa Tryz.prog 157 2 (.pointer (some ⟨b, o, none⟩)) = some (.pointer (some ⟨b, o + 2, none⟩)) := by kernel_rfl
theorem fz157_2 (b : Nat) : cfa Tryz.prog 157 2 (.pointer (some ⟨b, 0, none⟩)) = some (.pointer (some ⟨b, 2, none⟩)) := by kernel_rfl
theorem fa157_3 (b o : Nat) : cfa Tryz.prog 157 3 (.pointer (some ⟨b, o, none⟩)) = some (.pointer (some ⟨b, o + 3, none⟩)) := by kernel_rfl
theorem fz157_3 (b : Nat) : cfa Tryz.prog 157 3 (.pointer (some ⟨b, 0, none⟩)) = some (.pointer (some ⟨b, 3, none⟩)) := by kernel_rfl
theorem sz158 : szOf Tryz.prog 158 = some 4 := by kernel_rfl
theorem ag158 : aggB Tryz.prog 158 = some true := by kernel_rfl
theorem ze158 : zeroL Tryz.prog 158 = some [.pointer none, .pointer none, .pointer none, .string ⟨#[]⟩] := by kernel_rfl
theorem by158 : bytesOf' Tryz.prog 158 = 40 := by kernel_rfl
theorem fa158_0 (b o : Nat) : cfa Tryz.prog 158 0 (.pointer (some ⟨b, o, none⟩)) = some (.pointer (some ⟨b, o, none⟩)) := by kernel_rfl
theorem fz158_0 (b : Nat) : cfa Tryz.prog 158 0 (.pointer (some ⟨b, 0, none⟩)) = some (.pointer (some ⟨b, 0, none⟩)) := by kernel_rfl
theorem fa158_1 (b o : Nat) : cfa Tryz.prog 158 1 (.pointer (some ⟨b, o, none⟩)) = some (.pointer (some ⟨b, o + 1, none⟩)) := by kernel_rfl
theorem fz158_1 (b : Nat) : cfa Tryz.prog 158 1 (.pointer (some ⟨b, 0, none⟩)) = some (.pointer (some ⟨b, 1, none⟩)) := by kernel_rfl
theorem fa158_2 (b o : Nat) : cfa Tryz.prog 158 2 (.pointer (some ⟨b, o, none⟩)) = some (.pointer (some ⟨b, o + 2, none⟩)) := by kernel_rfl
theorem fz158_2 (b : Nat) : cfa Tryz.prog 158 2 (.pointer (some ⟨b, 0, none⟩)) = some (.pointer (some ⟨b, 2, none⟩)) := by kernel_rfl
theorem fa158_3 (b o : Nat) : cfa Tryz.prog 158 3 (.pointer (some ⟨b, o, none⟩)) = some (.pointer (some ⟨b, o + 3, none⟩)) := by kernel_rfl
theorem fz158_3 (b : Nat) : cfa Tryz.prog 158 3 (.pointer (some ⟨b, 0, none⟩)) = some (.pointer (some ⟨b, 3, none⟩)) := by kernel_rfl
theorem sz159 : szOf Tryz.prog 159 = some 0 := by kernel_rfl
theorem ag159 : aggB Tryz.prog 159 = some true := by kernel_rfl
theorem ze159 : zeroL Tryz.prog 159 = some [] := by kernel_rfl
theorem by159 : bytesOf' Tryz.prog 159 = 0 := by kernel_rfl
theorem sz160 : szOf Tryz.prog 160 = some 0 := by kernel_rfl
theorem ag160 : aggB Tryz.prog 160 = some true := by kernel_rfl
theorem ze160 : zeroL Tryz.prog 160 = some [] := by kernel_rfl
theorem by160 : bytesOf' Tryz.prog 160 = 0 := by kernel_rfl
theorem sz161 : szOf Tryz.prog 161 = some 0 := by kernel_rfl
theorem ag161 : aggB Tryz.prog 161 = some true := by kernel_rfl
theorem ze161 : zeroL Tryz.prog 161 = some [] := by kernel_rfl
theorem by161 : bytesOf' Tryz.prog 161 = 0 := by kernel_rfl
theorem sz162 : szOf Tryz.prog 162 = some 1 := by kernel_rfl
theorem ag162 : aggB Tryz.prog 162 = some false := by kernel_rfl
theorem ze162 : zeroL Tryz.prog 162 = some [.nilFunc] := by kernel_rfl
theorem by162 : bytesOf' Tryz.prog 162 = 8 := by kernel_rfl
theorem sz163 : szOf Tryz.prog 163 = some 1 := by kernel_rfl
theorem ag163 : aggB Tryz.prog 163 = some false := by kernel_rfl
theorem ze163 : zeroL Tryz.prog 163 = some [.int .u32 0] := by kernel_rfl
theorem by163 : bytesOf' Tryz.prog 163 = 4 := by kernel_rfl
theorem sz164 : szOf Tryz.prog 164 = some 1 := by kernel_rfl
theorem ag164 : aggB Tryz.prog 164 = some false := by kernel_rfl
theorem ze164 : zeroL Tryz.prog 164 = some [.int .u8 0] := by kernel_rfl
theorem by164 : bytesOf' Tryz.prog 164 = 1 := by kernel_rfl
theorem sz165 : szOf Tryz.prog 165 = some 1 := by kernel_rfl
theorem ag165 : aggB Tryz.prog 165 = some false := by kernel_rfl
theorem ze165 : zeroL Tryz.prog 165 = some [.int .u8 0] := by kernel_rfl
theorem by165 : bytesOf' Tryz.prog 165 = 1 := by kernel_rfl
theorem sz166 : szOf Tryz.prog 166 = some 1 := by kernel_rfl
theorem ag166 : aggB Tryz.prog 166 = some false := by kernel_rfl
theorem ze166 : zeroL Tryz.prog 166 = some [.nilFunc] := by kernel_rfl
theorem by166 : bytesOf' Tryz.prog 166 = 8 := by kernel_rfl
theorem sz167 : szOf Tryz.prog 167 = some 1 := by kernel_rfl
theorem ag167 : aggB Tryz.prog 167 = some false := by kernel_rfl
theorem ze167 : zeroL Tryz.prog 167 = some [.pointer none] := by kernel_rfl
theorem by167 : bytesOf' Tryz.prog 167 = 8 := by kernel_rfl
theorem sz168 : szOf Tryz.prog 168 = some 1 := by kernel_rfl
theorem ag168 : aggB Tryz.prog 168 = some false := by kernel_rfl
theorem ze168 : zeroL Tryz.prog 168 = some [.int .i32 0] := by kernel_rfl
theorem by168 : bytesOf' Tryz.prog 168 = 4 := by kernel_rfl
theorem sz169 : szOf Tryz.prog 169 = some 1 := by kernel_rfl
theorem ag169 : aggB Tryz.prog 169 = some false := by kernel_rfl
theorem ze169 : zeroL Tryz.prog 169 = some [.int .i32 0] := by kernel_rfl
theorem by169 : bytesOf' Tryz.prog 169 = 4 := by kernel_rfl
theorem sz170 : szOf Tryz.prog 170 = some 11 := by kernel_rfl
theorem ag170 : aggB Tryz.prog 170 = some true := by kernel_rfl
theorem ze170 : zeroL Tryz.prog 170 = some [.int .u64 0, .int .u64 0, .int .u32 0, .int .u8 0, .int .u8 0, .int .u8 0, .int .u8 0, .nilFunc, .pointer none, .int .i32 0, .int .i32 0] := by kernel_rfl
theorem by170 : bytesOf' Tryz.prog 170 = 48 := by kernel_rfl
theorem fa170_0 (b o : Nat) : cfa Tryz.prog 170 0 (.pointer (some ⟨b, o, none⟩)) = some (.pointer (some ⟨b, o, none⟩)) := by kernel_rfl
theorem fz170_0 (b : Nat) : cfa Tryz.prog 170 0 (.pointer (some ⟨b, 0, none⟩)) = some (.pointer (some ⟨b, 0, none⟩)) := by kernel_rfl
theorem fa170_1 (b o : Nat) : cfa Tryz.prog 170 1 (.pointer (some ⟨b, o, none⟩)) = some (.pointer (some ⟨b, o + 1, none⟩)) := by kernel_rfl
theorem fz170_1 (b : Nat) : cfa Tryz.prog 170 1 (.pointer (some ⟨b, 0, none⟩)) = some (.pointer (some ⟨b, 1, none⟩)) := by kernel_rfl
theorem fa170_2 (b o : Nat) : cfa Tryz.prog 170 2 (.pointer (some ⟨b, o, none⟩)) = some (.pointer (some ⟨b, o + 2, none⟩)) := by kernel_rfl
theorem fz170_2 (b : Nat) : cfa Tryz.prog 170 2 (.pointer (some ⟨b, 0, none⟩)) = some (.pointer (some ⟨b, 2, none⟩)) := by kernel_rfl
theorem fa170_3 (b o : Nat) : cfa Tryz.prog 170 3 (.pointer (some ⟨b, o, none⟩)) = some (.pointer (some ⟨b, o + 3, none⟩)) := by kernel_rfl
theorem fz170_3 (b : Nat) : cfa Tryz.prog 170 3 (.pointer (some ⟨b, 0, none⟩)) = some (.pointer (some ⟨b, 3, none⟩)) := by kernel_rfl
theorem fa170_4 (b o : Nat) : cfa Tryz.prog 170 4 (.pointer (some ⟨b, o, none⟩)) = some (.pointer (some ⟨b, o + 4, none⟩)) := by kernel_rfl
theorem fz170_4 (b : Nat) : cfa Tryz.prog 170 4 (.pointer (some ⟨b, 0, none⟩)) = some (.pointer (some ⟨b, 4, none⟩)) := by kernel_rfl
theorem fa170_5 (b o : Nat) : cfa Tryz.prog 170 5 (.pointer (some ⟨b, o, none⟩)) = some (.pointer (some ⟨b, o + 5, none⟩)) := by kernel_rfl
theorem fz170_5 (b : Nat) : cfa Tryz.prog 170 5 (.pointer (some ⟨b, 0, none⟩)) = some (.pointer (some ⟨b, 5, none⟩)) := by kernel_rfl
theorem fa170_6 (b o : Nat) : cfa Tryz.prog 170 6 (.pointer (some ⟨b, o, none⟩)) = some (.pointer (some ⟨b, o + 6, none⟩)) := by kernel_rfl
theorem fz170_6 (b : Nat) : cfa Tryz.prog 170 6 (.pointer (some ⟨b, 0, none⟩)) = some (.pointer (some ⟨b, 6, none⟩)) := by kernel_rfl
theorem fa170_7 (b o : Nat) : cfa Tryz.prog 170 7 (.pointer (some ⟨b, o, none⟩)) = some (.pointer (some ⟨b, o + 7, none⟩)) := by kernel_rfl
theorem fz170_7 (b : Nat) : cfa Tryz.prog 170 7 (.pointer (some ⟨b, 0, none⟩)) = some (.pointer (some ⟨b, 7, none⟩)) := by kernel_rfl
theorem fa170_8 (b o : Nat) : cfa Tryz.prog 170 8 (.pointer (some ⟨b, o, none⟩)) = some (.pointer (some ⟨b, o + 8, none⟩)) := by kernel_rfl
theorem fz170_8 (b : Nat) : cfa Tryz.prog 170 8 (.pointer (some ⟨b, 0, none⟩)) = some (.pointer (some ⟨b, 8, none⟩)) := by kernel_rfl
theorem fa170_9 (b o : Nat) : cfa Tryz.prog 170 9 (.pointer (some ⟨b, o, none⟩)) = some (.pointer (some ⟨b, o + 9, none⟩)) := by kernel_rfl
theorem fz170_9 (b : Nat) : cfa Tryz.prog 170 9 (.pointer (some ⟨b, 0, none⟩)) = some (.pointer (some ⟨b, 9, none⟩)) := by kernel_rfl
theorem fa170_10 (b o : Nat) : cfa Tryz.prog 170 10 (.pointer (some ⟨b, o, none⟩)) = some (.pointer (some ⟨b, o + 10, none⟩)) := by kernel_rfl
theorem fz170_10 (b : Nat) : cfa Tryz.prog 170 10 (.pointer (some ⟨b, 0, none⟩)) = some (.pointer (some ⟨b, 10, none⟩)) := by kernel_rfl
theorem sz171 : szOf Tryz.prog 171 = some 11 := by kernel_rfl
theorem ag171 : aggB Tryz.prog 171 = some true := by kernel_rfl
theorem ze171 : zeroL Tryz.prog 171 = some [.int .u64 0, .int .u64 0, .int .u32 0, .int .u8 0, .int .u8 0, .int .u8 0, .int .u8 0, .nilFunc, .pointer none, .int .i32 0, .int .i32 0] := by kernel_rfl
theorem by171 : bytesOf' Tryz.prog 171 = 48 := by kernel_rfl
theorem fa171_0 (b o : Nat) : cfa Tryz.prog 171 0 (.pointer (some ⟨b, o, none⟩)) = some (.pointer (some ⟨b, o, none⟩)) := by kernel_rfl
theorem fz171_0 (b : Nat) : cfa Tryz.prog 171 0 (.pointer (some ⟨b, 0, none⟩)) = some (.pointer (some ⟨b, 0, none⟩)) := by kernel_rfl
theorem fa171_1 (b o : Nat) : cfa Tryz.prog 171 1 (.pointer (some ⟨b, o, none⟩)) = some (.pointer (some ⟨b, o + 1, none⟩)) := by kernel_rfl
theorem fz171_1 (b : Nat) : cfa Tryz.prog 171 1 (.pointer (some ⟨b, 0, none⟩)) = some (.pointer (some ⟨b, 1, none⟩)) := by kernel_rfl
theorem fa171_2 (b o : Nat) : cfa Tryz.prog 171 2 (.pointer (some ⟨b, o, none⟩)) = some (.pointer (some ⟨b, o + 2, none⟩)) := by kernel_rfl
theorem fz171_2 (b : Nat) : cfa Tryz.prog 171 2 (.pointer (some ⟨b, 0, none⟩)) = some (.pointer (some ⟨b, 2, none⟩)) := by kernel_rfl
theorem fa171_3 (b o : Nat) : cfa Tryz.prog 171 3 (.pointer (some ⟨b, o, none⟩)) = some (.pointer (some ⟨b, o + 3, none⟩)) := by kernel_rfl
theorem fz171_3 (b : Nat) : cfa Tryz.prog 171 3 (.pointer (some ⟨b, 0, none⟩)) = some (.pointer (some ⟨b, 3, none⟩)) := by kernel_rfl
theorem fa171_4 (b o : Nat) : cfa Tryz.prog 171 4 (.pointer (some ⟨b, o, none⟩)) = some (.pointer (some ⟨b, o + 4, none⟩)) := by kernel_rfl
theorem fz171_4 (b : Nat) : cfa Tryz.prog 171 4 (.pointer (some ⟨b, 0, none⟩)) = some (.pointer (some ⟨b, 4, none⟩)) := by kernel_rfl
theorem fa171_5 (b o : Nat) : cfa Tryz.prog 171 5 (.pointer (some ⟨b, o, none⟩)) = some (.pointer (some ⟨b, o + 5, none⟩)) := by kernel_rfl
theorem fz171_5 (b : Nat) : cfa Tryz.prog 171 5 (.pointer (some ⟨b, 0, none⟩)) = some (.pointer (some ⟨b, 5, none⟩)) := by kernel_rfl
theorem fa171_6 (b o : Nat) : cfa Tryz.prog 171 6 (.pointer (some ⟨b, o, none⟩)) = some (.pointer (some ⟨b, o + 6, none⟩)) := by kernel_rfl
theorem fz171_6 (b : Nat) : cfa Tryz.prog 171 6 (.pointer (some ⟨b, 0, none⟩)) = some (.pointer (some ⟨b, 6, none⟩)) := by kernel_rfl
theorem fa171_7 (b o : Nat) : cfa Tryz.prog 171 7 (.pointer (some ⟨b, o, none⟩)) = some (.pointer (some ⟨b, o + 7, none⟩)) := by kernel_rfl
theorem fz171_7 (b : Nat) : cfa Tryz.prog 171 7 (.pointer (some ⟨b, 0, none⟩)) = some (.pointer (some ⟨b, 7, none⟩)) := by kernel_rfl
theorem fa171_8 (b o : Nat) : cfa Tryz.prog 171 8 (.pointer (some ⟨b, o, none⟩)) = some (.pointer (some ⟨b, o + 8, none⟩)) := by kernel_rfl
theorem fz171_8 (b : Nat) : cfa Tryz.prog 171 8 (.pointer (some ⟨b, 0, none⟩)) = some (.pointer (some ⟨b, 8, none⟩)) := by kernel_rfl
theorem fa171_9 (b o : Nat) : cfa Tryz.prog 171 9 (.pointer (some ⟨b, o, none⟩)) = some (.pointer (some ⟨b, o + 9, none⟩)) := by kernel_rfl
theorem fz171_9 (b : Nat) : cfa Tryz.prog 171 9 (.pointer (some ⟨b, 0, none⟩)) = some (.pointer (some ⟨b, 9, none⟩)) := by kernel_rfl
theorem fa171_10 (b o : Nat) : cfa Tryz.prog 171 10 (.pointer (some ⟨b, o, none⟩)) = some (.pointer (some ⟨b, o + 10, none⟩)) := by kernel_rfl
theorem fz171_10 (b : Nat) : cfa Tryz.prog 171 10 (.pointer (some ⟨b, 0, none⟩)) = some (.pointer (some ⟨b, 10, none⟩)) := by kernel_rfl
end Go.Proofs.YtclgfagkaklnnaaGreat.C
