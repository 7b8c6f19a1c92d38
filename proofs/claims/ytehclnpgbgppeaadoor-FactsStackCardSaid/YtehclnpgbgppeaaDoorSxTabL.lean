/- a part of the executor and of its soundness -/
import Derived.Test.YtehclnpgbgppeaaDoorSxLf
import Derived.Test.YtehclnpgbgppeaaDoorTie
namespace Go.Proofs
open Go Sx
noncomputable def Tryd.ty1 : TI := { d := .func, sz := 1, by_ := 8, zero := [.nfn], lf := [] }
noncomputable def Tryd.ty2 : TI := { d := (.int .i64), sz := 1, by_ := 8, zero := [.int .i64 (.c (0))], lf := [] }
noncomputable def Tryd.ty3 : TI := { d := (.int .i64), sz := 1, by_ := 8, zero := [.int .i64 (.c (0))], lf := [] }
noncomputable def Tryd.ty4 : TI := { d := .bool, sz := 1, by_ := 1, zero := [.bool false], lf := [] }
noncomputable def Tryd.ty5 : TI := { d := (.int .u8), sz := 1, by_ := 1, zero := [.int .u8 (.c (0))], lf := [] }
noncomputable def Tryd.ty6 : TI := { d := (.int .u8), sz := 1, by_ := 1, zero := [.int .u8 (.c (0))], lf := [] }
noncomputable def Tryd.ty7 : TI := { d := (.strct [(0, 2), (1, 3), (2, 4), (3, 6)]), sz := 4, by_ := 24, zero := [.int .i64 (.c (0)), .int .i64 (.c (0)), .bool false, .int .u8 (.c (0))], lf := [false, false, true, false] }
noncomputable def Tryd.ty8 : TI := { d := (.strct [(0, 2), (1, 3), (2, 4), (3, 6)]), sz := 4, by_ := 24, zero := [.int .i64 (.c (0)), .int .i64 (.c (0)), .bool false, .int .u8 (.c (0))], lf := [false, false, true, false] }
noncomputable def Tryd.ty9 : TI := { d := .str, sz := 1, by_ := 16, zero := [(.str ByteArray.empty)], lf := [] }
noncomputable def Tryd.ty10 : TI := { d := .str, sz := 1, by_ := 16, zero := [(.str ByteArray.empty)], lf := [] }
noncomputable def Tryd.ty11 : TI := { d := .str, sz := 1, by_ := 16, zero := [(.str ByteArray.empty)], lf := [] }
noncomputable def Tryd.ty12 : TI := { d := (.int .u64), sz := 1, by_ := 8, zero := [.int .u64 (.c (0))], lf := [] }
noncomputable def Tryd.ty13 : TI := { d := (.strct [(0, 9), (1, 12)]), sz := 2, by_ := 24, zero := [(.str ByteArray.empty), .int .u64 (.c (0))], lf := [] }
noncomputable def Tryd.ty14 : TI := { d := (.strct [(0, 9), (1, 12)]), sz := 2, by_ := 24, zero := [(.str ByteArray.empty), .int .u64 (.c (0))], lf := [] }
noncomputable def Tryd.ty15 : TI := { d := (.ptr 113), sz := 1, by_ := 8, zero := [.nptr], lf := [] }
noncomputable def Tryd.ty16 : TI := { d := (.ptr 116), sz := 1, by_ := 8, zero := [.nptr], lf := [] }
noncomputable def Tryd.ty17 : TI := { d := (.ptr 125), sz := 1, by_ := 8, zero := [.nptr], lf := [] }
noncomputable def Tryd.ty18 : TI := { d := (.strct [(0, 17)]), sz := 1, by_ := 8, zero := [.nptr], lf := [] }
noncomputable def Tryd.ty19 : TI := { d := (.strct [(0, 17)]), sz := 1, by_ := 8, zero := [.nptr], lf := [] }
noncomputable def Tryd.ty21 : TI := { d := (.int .i32), sz := 1, by_ := 4, zero := [.int .i32 (.c (0))], lf := [] }
noncomputable def Tryd.ty22 : TI := { d := (.strct [(0, 5), (1, 3), (2, 3), (3, 3), (4, 3), (5, 2), (6, 4), (7, 2)]), sz := 8, by_ := 64, zero := [.int .u8 (.c (0)), .int .i64 (.c (0)), .int .i64 (.c (0)), .int .i64 (.c (0)), .int .i64 (.c (0)), .int .i64 (.c (0)), .bool false, .int .i64 (.c (0))], lf := [false, false, false, false, false, false, true, false] }
noncomputable def Tryd.ty23 : TI := { d := (.strct [(0, 5), (1, 3), (2, 3), (3, 3), (4, 3), (5, 2), (6, 4), (7, 2)]), sz := 8, by_ := 64, zero := [.int .u8 (.c (0)), .int .i64 (.c (0)), .int .i64 (.c (0)), .int .i64 (.c (0)), .int .i64 (.c (0)), .int .i64 (.c (0)), .bool false, .int .i64 (.c (0))], lf := [false, false, false, false, false, false, true, false] }
noncomputable def Tryd.ty24 : TI := { d := (.strct [(0, 5), (1, 5), (2, 3), (3, 23), (11, 23), (19, 5), (20, 3)]), sz := 21, by_ := 160, zero := [.int .u8 (.c (0)), .int .u8 (.c (0)), .int .i64 (.c (0)), .int .u8 (.c (0)), .int .i64 (.c (0)), .int .i64 (.c (0)), .int .i64 (.c (0)), .int .i64 (.c (0)), .int .i64 (.c (0)), .bool false, .int .i64 (.c (0)), .int .u8 (.c (0)), .int .i64 (.c (0)), .int .i64 (.c (0)), .int .i64 (.c (0)), .int .i64 (.c (0)), .int .i64 (.c (0)), .bool false, .int .i64 (.c (0)), .int .u8 (.c (0)), .int .i64 (.c (0))], lf := [] }
noncomputable def Tryd.ty25 : TI := { d := (.strct [(0, 5), (1, 5), (2, 3), (3, 23), (11, 23), (19, 5), (20, 3)]), sz := 21, by_ := 160, zero := [.int .u8 (.c (0)), .int .u8 (.c (0)), .int .i64 (.c (0)), .int .u8 (.c (0)), .int .i64 (.c (0)), .int .i64 (.c (0)), .int .i64 (.c (0)), .int .i64 (.c (0)), .int .i64 (.c (0)), .bool false, .int .i64 (.c (0)), .int .u8 (.c (0)), .int .i64 (.c (0)), .int .i64 (.c (0)), .int .i64 (.c (0)), .int .i64 (.c (0)), .int .i64 (.c (0)), .bool false, .int .i64 (.c (0)), .int .u8 (.c (0)), .int .i64 (.c (0))], lf := [] }
noncomputable def Tryd.ty26 : TI := { d := .func, sz := 1, by_ := 8, zero := [.nfn], lf := [] }
noncomputable def Tryd.ty27 : TI := { d := .func, sz := 1, by_ := 8, zero := [.nfn], lf := [] }
noncomputable def Tryd.ty28 : TI := { d := (.slice 3), sz := 1, by_ := 24, zero := [.nslice], lf := [] }
noncomputable def Tryd.ty29 : TI := { d := (.strct [(0, 28), (1, 28), (2, 28), (3, 5), (4, 5), (5, 3), (6, 3), (7, 4)]), sz := 8, by_ := 104, zero := [.nslice, .nslice, .nslice, .int .u8 (.c (0)), .int .u8 (.c (0)), .int .i64 (.c (0)), .int .i64 (.c (0)), .bool false], lf := [] }
noncomputable def Tryd.ty30 : TI := { d := (.strct [(0, 28), (1, 28), (2, 28), (3, 5), (4, 5), (5, 3), (6, 3), (7, 4)]), sz := 8, by_ := 104, zero := [.nslice, .nslice, .nslice, .int .u8 (.c (0)), .int .u8 (.c (0)), .int .i64 (.c (0)), .int .i64 (.c (0)), .bool false], lf := [] }
noncomputable def Tryd.ty31 : TI := { d := .func, sz := 1, by_ := 8, zero := [.nfn], lf := [] }
noncomputable def Tryd.ty32 : TI := { d := .func, sz := 1, by_ := 8, zero := [.nfn], lf := [] }
noncomputable def Tryd.ty33 : TI := { d := (.strct [(0, 4), (1, 4), (2, 4), (3, 4), (4, 4)]), sz := 5, by_ := 5, zero := [.bool false, .bool false, .bool false, .bool false, .bool false], lf := [true, true, true, true, true] }
noncomputable def Tryd.ty34 : TI := { d := (.strct [(0, 4), (1, 4), (2, 4), (3, 4), (4, 4)]), sz := 5, by_ := 5, zero := [.bool false, .bool false, .bool false, .bool false, .bool false], lf := [true, true, true, true, true] }
noncomputable def Tryd.ty35 : TI := { d := .func, sz := 1, by_ := 8, zero := [.nfn], lf := [] }
noncomputable def Tryd.ty36 : TI := { d := (.arr 5 4), sz := 5, by_ := 5, zero := [.bool false, .bool false, .bool false, .bool false, .bool false], lf := [] }
noncomputable def Tryd.ty37 : TI := { d := (.ptr 4), sz := 1, by_ := 8, zero := [.nptr], lf := [] }
noncomputable def Tryd.ty38 : TI := { d := (.arr 5 37), sz := 5, by_ := 40, zero := [.nptr, .nptr, .nptr, .nptr, .nptr], lf := [] }
noncomputable def Tryd.ty39 : TI := { d := (.int .u64), sz := 1, by_ := 8, zero := [.int .u64 (.c (0))], lf := [] }
noncomputable def Tryd.ty40 : TI := { d := .func, sz := 1, by_ := 8, zero := [.nfn], lf := [] }
noncomputable def Tryd.ty41 : TI := { d := (.slice 5), sz := 1, by_ := 24, zero := [.nslice], lf := [] }
noncomputable def Tryd.ty42 : TI := { d := .func, sz := 1, by_ := 8, zero := [.nfn], lf := [] }
noncomputable def Tryd.ty43 : TI := { d := (.strct [(0, 3), (1, 9), (2, 9), (3, 5), (4, 41), (5, 3), (6, 3), (7, 3)]), sz := 8, by_ := 96, zero := [.int .i64 (.c (0)), (.str ByteArray.empty), (.str ByteArray.empty), .int .u8 (.c (0)), .nslice, .int .i64 (.c (0)), .int .i64 (.c (0)), .int .i64 (.c (0))], lf := [] }
noncomputable def Tryd.ty44 : TI := { d := (.strct [(0, 3), (1, 9), (2, 9), (3, 5), (4, 41), (5, 3), (6, 3), (7, 3)]), sz := 8, by_ := 96, zero := [.int .i64 (.c (0)), (.str ByteArray.empty), (.str ByteArray.empty), .int .u8 (.c (0)), .nslice, .int .i64 (.c (0)), .int .i64 (.c (0)), .int .i64 (.c (0))], lf := [] }
noncomputable def Tryd.ty46 : TI := { d := .func, sz := 1, by_ := 8, zero := [.nfn], lf := [] }
noncomputable def Tryd.ty47 : TI := { d := .func, sz := 1, by_ := 8, zero := [.nfn], lf := [] }
noncomputable def Tryd.ty48 : TI := { d := (.slice 50), sz := 1, by_ := 24, zero := [.nslice], lf := [] }
noncomputable def Tryd.ty49 : TI := { d := .func, sz := 1, by_ := 8, zero := [.nfn], lf := [] }
noncomputable def Tryd.ty50 : TI := { d := (.int .u64), sz := 1, by_ := 8, zero := [.int .u64 (.c (0))], lf := [] }
noncomputable def Tryd.ty51 : TI := { d := (.ptr 53), sz := 1, by_ := 8, zero := [.nptr], lf := [] }
noncomputable def Tryd.ty52 : TI := { d := (.strct [(0, 25), (21, 3), (22, 30)]), sz := 30, by_ := 272, zero := [.int .u8 (.c (0)), .int .u8 (.c (0)), .int .i64 (.c (0)), .int .u8 (.c (0)), .int .i64 (.c (0)), .int .i64 (.c (0)), .int .i64 (.c (0)), .int .i64 (.c (0)), .int .i64 (.c (0)), .bool false, .int .i64 (.c (0)), .int .u8 (.c (0)), .int .i64 (.c (0)), .int .i64 (.c (0)), .int .i64 (.c (0)), .int .i64 (.c (0)), .int .i64 (.c (0)), .bool false, .int .i64 (.c (0)), .int .u8 (.c (0)), .int .i64 (.c (0)), .int .i64 (.c (0)), .nslice, .nslice, .nslice, .int .u8 (.c (0)), .int .u8 (.c (0)), .int .i64 (.c (0)), .int .i64 (.c (0)), .bool false], lf := [] }
noncomputable def Tryd.ty53 : TI := { d := (.strct [(0, 25), (21, 3), (22, 30)]), sz := 30, by_ := 272, zero := [.int .u8 (.c (0)), .int .u8 (.c (0)), .int .i64 (.c (0)), .int .u8 (.c (0)), .int .i64 (.c (0)), .int .i64 (.c (0)), .int .i64 (.c (0)), .int .i64 (.c (0)), .int .i64 (.c (0)), .bool false, .int .i64 (.c (0)), .int .u8 (.c (0)), .int .i64 (.c (0)), .int .i64 (.c (0)), .int .i64 (.c (0)), .int .i64 (.c (0)), .int .i64 (.c (0)), .bool false, .int .i64 (.c (0)), .int .u8 (.c (0)), .int .i64 (.c (0)), .int .i64 (.c (0)), .nslice, .nslice, .nslice, .int .u8 (.c (0)), .int .u8 (.c (0)), .int .i64 (.c (0)), .int .i64 (.c (0)), .bool false], lf := [] }
noncomputable def Tryd.ty54 : TI := { d := .func, sz := 1, by_ := 8, zero := [.nfn], lf := [] }
noncomputable def Tryd.ty56 : TI := { d := (.map 5 54), sz := 1, by_ := 8, zero := [.nmap], lf := [] }
noncomputable def Tryd.ty57 : TI := { d := .func, sz := 1, by_ := 8, zero := [.nfn], lf := [] }
noncomputable def Tryd.ty58 : TI := { d := .func, sz := 1, by_ := 8, zero := [.nfn], lf := [] }
noncomputable def Tryd.ty59 : TI := { d := .func, sz := 1, by_ := 8, zero := [.nfn], lf := [] }
noncomputable def Tryd.ty60 : TI := { d := (.arr 4 5), sz := 4, by_ := 4, zero := [.int .u8 (.c (0)), .int .u8 (.c (0)), .int .u8 (.c (0)), .int .u8 (.c (0))], lf := [] }
noncomputable def Tryd.ty61 : TI := { d := (.arr 8 5), sz := 8, by_ := 8, zero := [.int .u8 (.c (0)), .int .u8 (.c (0)), .int .u8 (.c (0)), .int .u8 (.c (0)), .int .u8 (.c (0)), .int .u8 (.c (0)), .int .u8 (.c (0)), .int .u8 (.c (0))], lf := [] }
noncomputable def Tryd.ty62 : TI := { d := (.arr 8 4), sz := 8, by_ := 8, zero := [.bool false, .bool false, .bool false, .bool false, .bool false, .bool false, .bool false, .bool false], lf := [] }
noncomputable def Tryd.ty63 : TI := { d := (.slice 44), sz := 1, by_ := 24, zero := [.nslice], lf := [] }
noncomputable def Tryd.ty64 : TI := { d := .func, sz := 1, by_ := 8, zero := [.nfn], lf := [] }
noncomputable def Tryd.ty65 : TI := { d := .func, sz := 1, by_ := 8, zero := [.nfn], lf := [] }
noncomputable def Tryd.ty66 : TI := { d := .func, sz := 1, by_ := 8, zero := [.nfn], lf := [] }
noncomputable def Tryd.ty67 : TI := { d := .func, sz := 1, by_ := 8, zero := [.nfn], lf := [] }
noncomputable def Tryd.ty68 : TI := { d := .func, sz := 1, by_ := 8, zero := [.nfn], lf := [] }
noncomputable def Tryd.ty69 : TI := { d := .func, sz := 1, by_ := 8, zero := [.nfn], lf := [] }
noncomputable def Tryd.ty70 : TI := { d := .func, sz := 1, by_ := 8, zero := [.nfn], lf := [] }
noncomputable def Tryd.ty71 : TI := { d := .func, sz := 1, by_ := 8, zero := [.nfn], lf := [] }
noncomputable def Tryd.ty72 : TI := { d := .func, sz := 1, by_ := 8, zero := [.nfn], lf := [] }
noncomputable def Tryd.ty73 : TI := { d := .func, sz := 1, by_ := 8, zero := [.nfn], lf := [] }
noncomputable def Tryd.ty74 : TI := { d := .func, sz := 1, by_ := 8, zero := [.nfn], lf := [] }
noncomputable def Tryd.ty75 : TI := { d := .func, sz := 1, by_ := 8, zero := [.nfn], lf := [] }
noncomputable def Tryd.ty76 : TI := { d := .func, sz := 1, by_ := 8, zero := [.nfn], lf := [] }
noncomputable def Tryd.ty77 : TI := { d := (.slice 23), sz := 1, by_ := 24, zero := [.nslice], lf := [] }
noncomputable def Tryd.ty78 : TI := { d := .func, sz := 1, by_ := 8, zero := [.nfn], lf := [] }
noncomputable def Tryd.ty79 : TI := { d := (.ptr 28), sz := 1, by_ := 8, zero := [.nptr], lf := [] }
noncomputable def Tryd.ty80 : TI := { d := (.ptr 3), sz := 1, by_ := 8, zero := [.nptr], lf := [] }
noncomputable def Tryd.ty81 : TI := { d := .func, sz := 1, by_ := 8, zero := [.nfn], lf := [] }
noncomputable def Tryd.ty82 : TI := { d := .func, sz := 1, by_ := 8, zero := [.nfn], lf := [] }
noncomputable def Tryd.ty83 : TI := { d := .func, sz := 1, by_ := 8, zero := [.nfn], lf := [] }
noncomputable def Tryd.ty84 : TI := { d := .func, sz := 1, by_ := 8, zero := [.nfn], lf := [] }
noncomputable def Tryd.ty85 : TI := { d := .func, sz := 1, by_ := 8, zero := [.nfn], lf := [] }
noncomputable def Tryd.ty86 : TI := { d := .func, sz := 1, by_ := 8, zero := [.nfn], lf := [] }
noncomputable def Tryd.ty87 : TI := { d := .func, sz := 1, by_ := 8, zero := [.nfn], lf := [] }
noncomputable def Tryd.ty88 : TI := { d := .func, sz := 1, by_ := 8, zero := [.nfn], lf := [] }
noncomputable def Tryd.ty89 : TI := { d := .func, sz := 1, by_ := 8, zero := [.nfn], lf := [] }
noncomputable def Tryd.ty90 : TI := { d := .func, sz := 1, by_ := 8, zero := [.nfn], lf := [] }
noncomputable def Tryd.ty91 : TI := { d := (.arr 2 3), sz := 2, by_ := 16, zero := [.int .i64 (.c (0)), .int .i64 (.c (0))], lf := [] }
noncomputable def Tryd.ty92 : TI := { d := .func, sz := 1, by_ := 8, zero := [.nfn], lf := [] }
noncomputable def Tryd.ty93 : TI := { d := (.int .i64), sz := 1, by_ := 8, zero := [.int .i64 (.c (0))], lf := [] }
noncomputable def Tryd.ty95 : TI := { d := .func, sz := 1, by_ := 8, zero := [.nfn], lf := [] }
noncomputable def Tryd.ty96 : TI := { d := .func, sz := 1, by_ := 8, zero := [.nfn], lf := [] }
noncomputable def Tryd.ty97 : TI := { d := .func, sz := 1, by_ := 8, zero := [.nfn], lf := [] }
noncomputable def Tryd.ty99 : TI := { d := .func, sz := 1, by_ := 8, zero := [.nfn], lf := [] }
noncomputable def Tryd.ty100 : TI := { d := .func, sz := 1, by_ := 8, zero := [.nfn], lf := [] }
noncomputable def Tryd.ty101 : TI := { d := (.int .u32), sz := 1, by_ := 4, zero := [.int .u32 (.c (0))], lf := [] }
noncomputable def Tryd.ty102 : TI := { d := .func, sz := 1, by_ := 8, zero := [.nfn], lf := [] }
noncomputable def Tryd.ty103 : TI := { d := (.int .u64), sz := 1, by_ := 8, zero := [.int .u64 (.c (0))], lf := [] }
noncomputable def Tryd.ty104 : TI := { d := .func, sz := 1, by_ := 8, zero := [.nfn], lf := [] }
noncomputable def Tryd.ty105 : TI := { d := .func, sz := 1, by_ := 8, zero := [.nfn], lf := [] }
noncomputable def Tryd.ty106 : TI := { d := .func, sz := 1, by_ := 8, zero := [.nfn], lf := [] }
noncomputable def Tryd.ty107 : TI := { d := .func, sz := 1, by_ := 8, zero := [.nfn], lf := [] }
noncomputable def Tryd.ty108 : TI := { d := (.ptr 103), sz := 1, by_ := 8, zero := [.nptr], lf := [] }
noncomputable def Tryd.ty110 : TI := { d := .func, sz := 1, by_ := 8, zero := [.nfn], lf := [] }
noncomputable def Tryd.ty111 : TI := { d := .func, sz := 1, by_ := 8, zero := [.nfn], lf := [] }
noncomputable def Tryd.ty112 : TI := { d := (.strct [(0, 17), (1, 17), (2, 17), (3, 9)]), sz := 4, by_ := 40, zero := [.nptr, .nptr, .nptr, (.str ByteArray.empty)], lf := [] }
noncomputable def Tryd.ty113 : TI := { d := (.strct [(0, 17), (1, 17), (2, 17), (3, 9)]), sz := 4, by_ := 40, zero := [.nptr, .nptr, .nptr, (.str ByteArray.empty)], lf := [] }
noncomputable def Tryd.ty114 : TI := { d := (.arr 0 16), sz := 0, by_ := 0, zero := [], lf := [] }
noncomputable def Tryd.ty115 : TI := { d := (.strct [(0, 114)]), sz := 0, by_ := 0, zero := [], lf := [] }
noncomputable def Tryd.ty116 : TI := { d := (.strct [(0, 114)]), sz := 0, by_ := 0, zero := [], lf := [] }
noncomputable def Tryd.ty117 : TI := { d := .func, sz := 1, by_ := 8, zero := [.nfn], lf := [] }
noncomputable def Tryd.ty118 : TI := { d := (.int .u8), sz := 1, by_ := 1, zero := [.int .u8 (.c (0))], lf := [] }
noncomputable def Tryd.ty119 : TI := { d := (.int .u8), sz := 1, by_ := 1, zero := [.int .u8 (.c (0))], lf := [] }
noncomputable def Tryd.ty120 : TI := { d := .func, sz := 1, by_ := 8, zero := [.nfn], lf := [] }
noncomputable def Tryd.ty121 : TI := { d := (.ptr 5), sz := 1, by_ := 8, zero := [.nptr], lf := [] }
noncomputable def Tryd.ty122 : TI := { d := (.int .i32), sz := 1, by_ := 4, zero := [.int .i32 (.c (0))], lf := [] }
noncomputable def Tryd.ty123 : TI := { d := (.int .i32), sz := 1, by_ := 4, zero := [.int .i32 (.c (0))], lf := [] }
noncomputable def Tryd.ty124 : TI := { d := (.strct [(0, 12), (1, 12), (2, 101), (3, 118), (4, 5), (5, 5), (6, 119), (7, 120), (8, 121), (9, 122), (10, 123)]), sz := 11, by_ := 48, zero := [.int .u64 (.c (0)), .int .u64 (.c (0)), .int .u32 (.c (0)), .int .u8 (.c (0)), .int .u8 (.c (0)), .int .u8 (.c (0)), .int .u8 (.c (0)), .nfn, .nptr, .int .i32 (.c (0)), .int .i32 (.c (0))], lf := [] }
noncomputable def Tryd.ty125 : TI := { d := (.strct [(0, 12), (1, 12), (2, 101), (3, 118), (4, 5), (5, 5), (6, 119), (7, 120), (8, 121), (9, 122), (10, 123)]), sz := 11, by_ := 48, zero := [.int .u64 (.c (0)), .int .u64 (.c (0)), .int .u32 (.c (0)), .int .u8 (.c (0)), .int .u8 (.c (0)), .int .u8 (.c (0)), .int .u8 (.c (0)), .nfn, .nptr, .int .i32 (.c (0)), .int .i32 (.c (0))], lf := [] }

noncomputable def Tryd.cty : T TI := (.n (.n (.n (.n (.n (.n (.n .e (some Tryd.ty63) .e) (some Tryd.ty31) (.n .e (some Tryd.ty95) .e)) (some Tryd.ty15) (.n (.n .e (some Tryd.ty79) .e) (some Tryd.ty47) (.n .e (some Tryd.ty111) .e))) (some Tryd.ty7) (.n (.n (.n .e (some Tryd.ty71) .e) (some Tryd.ty39) (.n .e (some Tryd.ty103) .e)) (some Tryd.ty23) (.n (.n .e (some Tryd.ty87) .e) none (.n .e (some Tryd.ty119) .e)))) (some Tryd.ty3) (.n (.n (.n (.n .e (some Tryd.ty67) .e) (some Tryd.ty35) (.n .e (some Tryd.ty99) .e)) (some Tryd.ty19) (.n (.n .e (some Tryd.ty83) .e) (some Tryd.ty51) (.n .e (some Tryd.ty115) .e))) (some Tryd.ty11) (.n (.n (.n .e (some Tryd.ty75) .e) (some Tryd.ty43) (.n .e (some Tryd.ty107) .e)) (some Tryd.ty27) (.n (.n .e (some Tryd.ty91) .e) (some Tryd.ty59) (.n .e (some Tryd.ty123) .e))))) (some Tryd.ty1) (.n (.n (.n (.n (.n .e (some Tryd.ty65) .e) (some Tryd.ty33) (.n .e (some Tryd.ty97) .e)) (some Tryd.ty17) (.n (.n .e (some Tryd.ty81) .e) (some Tryd.ty49) (.n .e (some Tryd.ty113) .e))) (some Tryd.ty9) (.n (.n (.n .e (some Tryd.ty73) .e) (some Tryd.ty41) (.n .e (some Tryd.ty105) .e)) (some Tryd.ty25) (.n (.n .e (some Tryd.ty89) .e) (some Tryd.ty57) (.n .e (some Tryd.ty121) .e)))) (some Tryd.ty5) (.n (.n (.n (.n .e (some Tryd.ty69) .e) (some Tryd.ty37) (.n .e (some Tryd.ty101) .e)) (some Tryd.ty21) (.n (.n .e (some Tryd.ty85) .e) (some Tryd.ty53) (.n .e (some Tryd.ty117) .e))) (some Tryd.ty13) (.n (.n (.n .e (some Tryd.ty77) .e) none .e) (some Tryd.ty29) (.n (.n .e (some Tryd.ty93) .e) (some Tryd.ty61) (.n .e (some Tryd.ty125) .e)))))) none (.n (.n (.n (.n (.n (.n .e (some Tryd.ty64) .e) (some Tryd.ty32) (.n .e (some Tryd.ty96) .e)) (some Tryd.ty16) (.n (.n .e (some Tryd.ty80) .e) (some Tryd.ty48) (.n .e (some Tryd.ty112) .e))) (some Tryd.ty8) (.n (.n (.n .e (some Tryd.ty72) .e) (some Tryd.ty40) (.n .e (some Tryd.ty104) .e)) (some Tryd.ty24) (.n (.n .e (some Tryd.ty88) .e) (some Tryd.ty56) (.n .e (some Tryd.ty120) .e)))) (some Tryd.ty4) (.n (.n (.n (.n .e (some Tryd.ty68) .e) (some Tryd.ty36) (.n .e (some Tryd.ty100) .e)) none (.n (.n .e (some Tryd.ty84) .e) (some Tryd.ty52) (.n .e (some Tryd.ty116) .e))) (some Tryd.ty12) (.n (.n (.n .e (some Tryd.ty76) .e) (some Tryd.ty44) (.n .e (some Tryd.ty108) .e)) (some Tryd.ty28) (.n (.n .e (some Tryd.ty92) .e) (some Tryd.ty60) (.n .e (some Tryd.ty124) .e))))) (some Tryd.ty2) (.n (.n (.n (.n (.n .e (some Tryd.ty66) .e) (some Tryd.ty34) .e) (some Tryd.ty18) (.n (.n .e (some Tryd.ty82) .e) (some Tryd.ty50) (.n .e (some Tryd.ty114) .e))) (some Tryd.ty10) (.n (.n (.n .e (some Tryd.ty74) .e) (some Tryd.ty42) (.n .e (some Tryd.ty106) .e)) (some Tryd.ty26) (.n (.n .e (some Tryd.ty90) .e) (some Tryd.ty58) (.n .e (some Tryd.ty122) .e)))) (some Tryd.ty6) (.n (.n (.n (.n .e (some Tryd.ty70) .e) (some Tryd.ty38) (.n .e (some Tryd.ty102) .e)) (some Tryd.ty22) (.n (.n .e (some Tryd.ty86) .e) (some Tryd.ty54) (.n .e (some Tryd.ty118) .e))) (some Tryd.ty14) (.n (.n (.n .e (some Tryd.ty78) .e) (some Tryd.ty46) (.n .e (some Tryd.ty110) .e)) (some Tryd.ty30) (.n .e (some Tryd.ty62) .e))))))

noncomputable def Tryd.cfn : T Func := (.n (.n (.n (.n (.n (.n (.n .e (some Tryd.f63) .e) (some Tryd.f31) .e) (some Tryd.f15) (.n (.n .e (some Tryd.f79) .e) (some Tryd.f47) .e)) (some Tryd.f7) (.n (.n (.n .e (some Tryd.f71) .e) (some Tryd.f39) .e) (some Tryd.f23) (.n (.n .e (some Tryd.f87) .e) (some Tryd.f55) .e))) (some Tryd.f3) (.n (.n (.n (.n .e (some Tryd.f67) .e) (some Tryd.f35) .e) (some Tryd.f19) (.n (.n .e (some Tryd.f83) .e) (some Tryd.f51) .e)) (some Tryd.f11) (.n (.n (.n .e (some Tryd.f75) .e) (some Tryd.f43) .e) (some Tryd.f27) (.n .e (some Tryd.f59) .e)))) none (.n (.n (.n (.n (.n .e (some Tryd.f65) .e) (some Tryd.f33) .e) (some Tryd.f17) (.n (.n .e (some Tryd.f81) .e) (some Tryd.f49) .e)) (some Tryd.f9) (.n (.n (.n .e (some Tryd.f73) .e) (some Tryd.f41) .e) (some Tryd.f25) (.n .e (some Tryd.f57) .e))) (some Tryd.f5) (.n (.n (.n (.n .e (some Tryd.f69) .e) (some Tryd.f37) .e) (some Tryd.f21) (.n (.n .e (some Tryd.f85) .e) (some Tryd.f53) .e)) (some Tryd.f13) (.n (.n (.n .e (some Tryd.f77) .e) (some Tryd.f45) .e) (some Tryd.f29) (.n .e (some Tryd.f61) .e))))) none (.n (.n (.n (.n (.n (.n .e (some Tryd.f64) .e) (some Tryd.f32) .e) (some Tryd.f16) (.n (.n .e (some Tryd.f80) .e) (some Tryd.f48) .e)) (some Tryd.f8) (.n (.n (.n .e (some Tryd.f72) .e) (some Tryd.f40) .e) (some Tryd.f24) (.n (.n .e (some Tryd.f88) .e) (some Tryd.f56) .e))) (some Tryd.f4) (.n (.n (.n (.n .e (some Tryd.f68) .e) (some Tryd.f36) .e) (some Tryd.f20) (.n (.n .e (some Tryd.f84) .e) (some Tryd.f52) .e)) (some Tryd.f12) (.n (.n (.n .e (some Tryd.f76) .e) (some Tryd.f44) .e) (some Tryd.f28) (.n .e (some Tryd.f60) .e)))) (some Tryd.f2) (.n (.n (.n (.n (.n .e (some Tryd.f66) .e) (some Tryd.f34) .e) (some Tryd.f18) (.n (.n .e (some Tryd.f82) .e) (some Tryd.f50) .e)) (some Tryd.f10) (.n (.n (.n .e (some Tryd.f74) .e) (some Tryd.f42) .e) (some Tryd.f26) (.n .e (some Tryd.f58) .e))) (some Tryd.f6) (.n (.n (.n (.n .e (some Tryd.f70) .e) (some Tryd.f38) .e) (some Tryd.f22) (.n (.n .e (some Tryd.f86) .e) (some Tryd.f54) .e)) (some Tryd.f14) (.n (.n (.n .e (some Tryd.f78) .e) (some Tryd.f46) (.n .e (some Tryd.f110) .e)) (some Tryd.f30) (.n .e (some Tryd.f62) .e))))))

theorem Tryd.cfns : allP (fun f fn => Tryd.prog.funcs[f]? = some fn) (fun i => i) Tryd.cfn :=
  ⟨⟨⟨⟨⟨⟨⟨trivial, Tryd.func63, trivial⟩, Tryd.func31, trivial⟩, Tryd.func15, ⟨⟨trivial, Tryd.func79, trivial⟩, Tryd.func47, trivial⟩⟩, Tryd.func7, ⟨⟨⟨trivial, Tryd.func71, trivial⟩, Tryd.func39, trivial⟩, Tryd.func23, ⟨⟨trivial, Tryd.func87, trivial⟩, Tryd.func55, trivial⟩⟩⟩, Tryd.func3, ⟨⟨⟨⟨trivial, Tryd.func67, trivial⟩, Tryd.func35, trivial⟩, Tryd.func19, ⟨⟨trivial, Tryd.func83, trivial⟩, Tryd.func51, trivial⟩⟩, Tryd.func11, ⟨⟨⟨trivial, Tryd.func75, trivial⟩, Tryd.func43, trivial⟩, Tryd.func27, ⟨trivial, Tryd.func59, trivial⟩⟩⟩⟩, trivial, ⟨⟨⟨⟨⟨trivial, Tryd.func65, trivial⟩, Tryd.func33, trivial⟩, Tryd.func17, ⟨⟨trivial, Tryd.func81, trivial⟩, Tryd.func49, trivial⟩⟩, Tryd.func9, ⟨⟨⟨trivial, Tryd.func73, trivial⟩, Tryd.func41, trivial⟩, Tryd.func25, ⟨trivial, Tryd.func57, trivial⟩⟩⟩, Tryd.func5, ⟨⟨⟨⟨trivial, Tryd.func69, trivial⟩, Tryd.func37, trivial⟩, Tryd.func21, ⟨⟨trivial, Tryd.func85, trivial⟩, Tryd.func53, trivial⟩⟩, Tryd.func13, ⟨⟨⟨trivial, Tryd.func77, trivial⟩, Tryd.func45, trivial⟩, Tryd.func29, ⟨trivial, Tryd.func61, trivial⟩⟩⟩⟩⟩, trivial, ⟨⟨⟨⟨⟨⟨trivial, Tryd.func64, trivial⟩, Tryd.func32, trivial⟩, Tryd.func16, ⟨⟨trivial, Tryd.func80, trivial⟩, Tryd.func48, trivial⟩⟩, Tryd.func8, ⟨⟨⟨trivial, Tryd.func72, trivial⟩, Tryd.func40, trivial⟩, Tryd.func24, ⟨⟨trivial, Tryd.func88, trivial⟩, Tryd.func56, trivial⟩⟩⟩, Tryd.func4, ⟨⟨⟨⟨trivial, Tryd.func68, trivial⟩, Tryd.func36, trivial⟩, Tryd.func20, ⟨⟨trivial, Tryd.func84, trivial⟩, Tryd.func52, trivial⟩⟩, Tryd.func12, ⟨⟨⟨trivial, Tryd.func76, trivial⟩, Tryd.func44, trivial⟩, Tryd.func28, ⟨trivial, Tryd.func60, trivial⟩⟩⟩⟩, Tryd.func2, ⟨⟨⟨⟨⟨trivial, Tryd.func66, trivial⟩, Tryd.func34, trivial⟩, Tryd.func18, ⟨⟨trivial, Tryd.func82, trivial⟩, Tryd.func50, trivial⟩⟩, Tryd.func10, ⟨⟨⟨trivial, Tryd.func74, trivial⟩, Tryd.func42, trivial⟩, Tryd.func26, ⟨trivial, Tryd.func58, trivial⟩⟩⟩, Tryd.func6, ⟨⟨⟨⟨trivial, Tryd.func70, trivial⟩, Tryd.func38, trivial⟩, Tryd.func22, ⟨⟨trivial, Tryd.func86, trivial⟩, Tryd.func54, trivial⟩⟩, Tryd.func14, ⟨⟨⟨trivial, Tryd.func78, trivial⟩, Tryd.func46, ⟨trivial, Tryd.func110, trivial⟩⟩, Tryd.func30, ⟨trivial, Tryd.func62, trivial⟩⟩⟩⟩⟩⟩

noncomputable def Tryd.cgl : T AO := .n (.n .e (some (.row 8 [[.int .u8 (.c 8), .int .u8 (.c 1), .int .u8 (.c 2), .int .u8 (.c 3), .int .u8 (.c 4), .int .u8 (.c 16), .int .u8 (.c 12), .int .u8 (.c 14)]] 61 true)) .e) (some (.row 4 [[.int .u8 (.c 26), .int .u8 (.c 27), .int .u8 (.c 28), .int .u8 (.c 29)]] 60 true)) .e
noncomputable def Tryd.CX (su : Nat → List AV → Hp → Gam → Option (List (AV × Hp × Gam))) : Cx := { fn := Tryd.cfn, ty := Tryd.cty, gl := Tryd.cgl, su := su }
theorem Tryd.tysq : allB (fun t ti => tyq Tryd.prog t ti && (noLeaf t ti || leafsq Tryd.prog t ti)) (fun i => i) Tryd.cty = true := by kernel_rfl
theorem Tryd.tys (su : Nat → List AV → Hp → Gam → Option (List (AV × Hp × Gam))) : TysOK Tryd.prog (Tryd.CX su) := tys_okL (C := Tryd.CX su) Tryd.tysq
theorem Tryd.fnsq : allB fnq (fun i => i) Tryd.cfn = true := by kernel_rfl
theorem Tryd.fns (su : Nat → List AV → Hp → Gam → Option (List (AV × Hp × Gam))) : FnOK Tryd.prog (Tryd.CX su) := fns_ok (C := Tryd.CX su) Tryd.cfns Tryd.fnsq
theorem Tryd.mixed : Tryd.prog.follows .mixedOrders = true := by kernel_rfl
end Go.Proofs
