/- The types of this seat's translation, as the abstract layer reads them. Written by program (gentypes.py). -/
import Derived.Test.YthhkdanpjcnegaaProg
import Derived.Test.YthhkdanpjcnegaaAb8
namespace Go.Proofs.Ythhkdanpjcnegaa
theorem ti1 : tiOf Try.prog 1 = some ⟨.other, 1, 8, .nilFunc⟩ := by kernel_rfl
theorem ti2 : tiOf Try.prog 2 = some ⟨.int .i64, 1, 8, .int .i64 0⟩ := by kernel_rfl
theorem ti3 : tiOf Try.prog 3 = some ⟨.int .i64, 1, 8, .int .i64 0⟩ := by kernel_rfl
theorem ti4 : tiOf Try.prog 4 = some ⟨.bool, 1, 1, .bool false⟩ := by kernel_rfl
theorem ti5 : tiOf Try.prog 5 = some ⟨.int .u8, 1, 1, .int .u8 0⟩ := by kernel_rfl
theorem ti6 : tiOf Try.prog 6 = some ⟨.int .u8, 1, 1, .int .u8 0⟩ := by kernel_rfl
theorem ti7 : tiOf Try.prog 7 = some ⟨.agg [(0, 1), (1, 1), (2, 1), (3, 1)], 4, 24, .agg #[(.int .i64 0), (.int .i64 0), (.bool false), (.int .u8 0)]⟩ := by kernel_rfl
theorem ti9 : tiOf Try.prog 9 = some ⟨.str, 1, 16, .string ⟨⟨[]⟩⟩⟩ := by kernel_rfl
theorem ti22 : tiOf Try.prog 22 = some ⟨.slc 5, 1, 24, .slice none 0 0⟩ := by kernel_rfl
theorem ti23 : tiOf Try.prog 23 = some ⟨.int .u32, 1, 4, .int .u32 0⟩ := by kernel_rfl
theorem ti24 : tiOf Try.prog 24 = some ⟨.other, 1, 8, .nilFunc⟩ := by kernel_rfl
theorem ti25 : tiOf Try.prog 25 = some ⟨.other, 1, 8, .nilFunc⟩ := by kernel_rfl
theorem ti26 : tiOf Try.prog 26 = some ⟨.other, 1, 8, .nilFunc⟩ := by kernel_rfl
theorem ti27 : tiOf Try.prog 27 = some ⟨.other, 1, 8, .nilFunc⟩ := by kernel_rfl
theorem ti28 : tiOf Try.prog 28 = some ⟨.other, 1, 8, .nilFunc⟩ := by kernel_rfl
theorem ti29 : tiOf Try.prog 29 = some ⟨.int .i64, 1, 8, .int .i64 0⟩ := by kernel_rfl
theorem ti31 : tiOf Try.prog 31 = some ⟨.other, 1, 8, .nilFunc⟩ := by kernel_rfl
theorem ti32 : tiOf Try.prog 32 = some ⟨.other, 1, 8, .nilFunc⟩ := by kernel_rfl
theorem ti34 : tiOf Try.prog 34 = some ⟨.other, 1, 8, .nilFunc⟩ := by kernel_rfl
theorem ti35 : tiOf Try.prog 35 = some ⟨.int .u64, 1, 8, .int .u64 0⟩ := by kernel_rfl
theorem ti36 : tiOf Try.prog 36 = some ⟨.other, 1, 8, .nilFunc⟩ := by kernel_rfl
theorem ti37 : tiOf Try.prog 37 = some ⟨.other, 1, 8, .nilFunc⟩ := by kernel_rfl
theorem ti38 : tiOf Try.prog 38 = some ⟨.other, 1, 8, .nilFunc⟩ := by kernel_rfl
theorem ti39 : tiOf Try.prog 39 = some ⟨.slc 2, 1, 24, .slice none 0 0⟩ := by kernel_rfl
theorem ti40 : tiOf Try.prog 40 = some ⟨.other, 1, 8, .nilFunc⟩ := by kernel_rfl
theorem ti41 : tiOf Try.prog 41 = some ⟨.other, 1, 8, .nilFunc⟩ := by kernel_rfl
theorem ti42 : tiOf Try.prog 42 = some ⟨.other, 1, 8, .nilFunc⟩ := by kernel_rfl
theorem ti43 : tiOf Try.prog 43 = some ⟨.agg [(0, 1), (1, 1), (2, 1), (3, 1)], 4, 48, .agg #[(.int .i64 0), (.int .i64 0), (.string ⟨⟨[]⟩⟩), (.string ⟨⟨[]⟩⟩)]⟩ := by kernel_rfl
theorem ti44 : tiOf Try.prog 44 = some ⟨.agg [(0, 1), (1, 1), (2, 1), (3, 1)], 4, 48, .agg #[(.int .i64 0), (.int .i64 0), (.string ⟨⟨[]⟩⟩), (.string ⟨⟨[]⟩⟩)]⟩ := by kernel_rfl
theorem ti45 : tiOf Try.prog 45 = some ⟨.other, 1, 8, .nilFunc⟩ := by kernel_rfl
theorem ti46 : tiOf Try.prog 46 = some ⟨.other, 1, 8, .nilFunc⟩ := by kernel_rfl
theorem ti47 : tiOf Try.prog 47 = some ⟨.other, 1, 8, .nilFunc⟩ := by kernel_rfl
theorem ti48 : tiOf Try.prog 48 = some ⟨.other, 1, 8, .nilFunc⟩ := by kernel_rfl
theorem ti49 : tiOf Try.prog 49 = some ⟨.other, 1, 8, .nilFunc⟩ := by kernel_rfl
theorem ti51 : tiOf Try.prog 51 = some ⟨.other, 1, 8, .nilFunc⟩ := by kernel_rfl
theorem ti52 : tiOf Try.prog 52 = some ⟨.other, 1, 8, .nilFunc⟩ := by kernel_rfl
theorem ti53 : tiOf Try.prog 53 = some ⟨.other, 1, 8, .nilFunc⟩ := by kernel_rfl
theorem ti54 : tiOf Try.prog 54 = some ⟨.other, 1, 8, .nilFunc⟩ := by kernel_rfl
theorem ti55 : tiOf Try.prog 55 = some ⟨.slc 44, 1, 24, .slice none 0 0⟩ := by kernel_rfl
theorem ti56 : tiOf Try.prog 56 = some ⟨.other, 1, 8, .nilFunc⟩ := by kernel_rfl
theorem ti57 : tiOf Try.prog 57 = some ⟨.slc 9, 1, 24, .slice none 0 0⟩ := by kernel_rfl
theorem ti58 : tiOf Try.prog 58 = some ⟨.slc 63, 1, 24, .slice none 0 0⟩ := by kernel_rfl
theorem ti59 : tiOf Try.prog 59 = some ⟨.slc 67, 1, 24, .slice none 0 0⟩ := by kernel_rfl
theorem ti60 : tiOf Try.prog 60 = some ⟨.agg [(0, 1), (1, 1), (2, 1), (3, 1), (4, 1), (5, 1)], 6, 112, .agg #[(.string ⟨⟨[]⟩⟩), (.string ⟨⟨[]⟩⟩), (.bool false), (.slice none 0 0), (.slice none 0 0), (.slice none 0 0)]⟩ := by kernel_rfl
theorem ti61 : tiOf Try.prog 61 = some ⟨.agg [(0, 1), (1, 1), (2, 1), (3, 1), (4, 1), (5, 1)], 6, 112, .agg #[(.string ⟨⟨[]⟩⟩), (.string ⟨⟨[]⟩⟩), (.bool false), (.slice none 0 0), (.slice none 0 0), (.slice none 0 0)]⟩ := by kernel_rfl
theorem ti62 : tiOf Try.prog 62 = some ⟨.agg [(0, 1), (1, 1), (2, 1)], 3, 40, .agg #[(.string ⟨⟨[]⟩⟩), (.string ⟨⟨[]⟩⟩), (.bool false)]⟩ := by kernel_rfl
theorem ti63 : tiOf Try.prog 63 = some ⟨.agg [(0, 1), (1, 1), (2, 1)], 3, 40, .agg #[(.string ⟨⟨[]⟩⟩), (.string ⟨⟨[]⟩⟩), (.bool false)]⟩ := by kernel_rfl
theorem ti64 : tiOf Try.prog 64 = some ⟨.slc 112, 1, 24, .slice none 0 0⟩ := by kernel_rfl
theorem ti65 : tiOf Try.prog 65 = some ⟨.slc 69, 1, 24, .slice none 0 0⟩ := by kernel_rfl
theorem ti66 : tiOf Try.prog 66 = some ⟨.agg [(0, 1), (1, 1), (2, 1), (3, 1), (4, 1), (5, 1), (6, 1), (7, 1), (8, 1), (9, 1)], 10, 152, .agg #[(.string ⟨⟨[]⟩⟩), (.slice none 0 0), (.string ⟨⟨[]⟩⟩), (.bool false), (.bool false), (.int .i64 0), (.int .i64 0), (.slice none 0 0), (.slice none 0 0), (.slice none 0 0)]⟩ := by kernel_rfl
theorem ti67 : tiOf Try.prog 67 = some ⟨.agg [(0, 1), (1, 1), (2, 1), (3, 1), (4, 1), (5, 1), (6, 1), (7, 1), (8, 1), (9, 1)], 10, 152, .agg #[(.string ⟨⟨[]⟩⟩), (.slice none 0 0), (.string ⟨⟨[]⟩⟩), (.bool false), (.bool false), (.int .i64 0), (.int .i64 0), (.slice none 0 0), (.slice none 0 0), (.slice none 0 0)]⟩ := by kernel_rfl
theorem ti68 : tiOf Try.prog 68 = some ⟨.agg [(0, 1), (1, 1), (2, 1), (3, 1)], 4, 40, .agg #[(.int .i64 0), (.int .i64 0), (.int .i64 0), (.string ⟨⟨[]⟩⟩)]⟩ := by kernel_rfl
theorem ti69 : tiOf Try.prog 69 = some ⟨.agg [(0, 1), (1, 1), (2, 1), (3, 1)], 4, 40, .agg #[(.int .i64 0), (.int .i64 0), (.int .i64 0), (.string ⟨⟨[]⟩⟩)]⟩ := by kernel_rfl
theorem ti70 : tiOf Try.prog 70 = some ⟨.other, 1, 8, .nilFunc⟩ := by kernel_rfl
theorem ti71 : tiOf Try.prog 71 = some ⟨.other, 1, 8, .nilFunc⟩ := by kernel_rfl
theorem ti72 : tiOf Try.prog 72 = some ⟨.other, 1, 8, .nilFunc⟩ := by kernel_rfl
theorem ti73 : tiOf Try.prog 73 = some ⟨.other, 1, 8, .nilFunc⟩ := by kernel_rfl
theorem ti74 : tiOf Try.prog 74 = some ⟨.other, 1, 8, .nilFunc⟩ := by kernel_rfl
theorem ti75 : tiOf Try.prog 75 = some ⟨.other, 1, 8, .nilFunc⟩ := by kernel_rfl
theorem ti76 : tiOf Try.prog 76 = some ⟨.int .u64, 1, 8, .int .u64 0⟩ := by kernel_rfl
theorem ti78 : tiOf Try.prog 78 = some ⟨.other, 1, 8, .nilFunc⟩ := by kernel_rfl
theorem ti79 : tiOf Try.prog 79 = some ⟨.other, 1, 8, .nilFunc⟩ := by kernel_rfl
theorem ti80 : tiOf Try.prog 80 = some ⟨.other, 1, 8, .nilFunc⟩ := by kernel_rfl
theorem ti81 : tiOf Try.prog 81 = some ⟨.other, 1, 8, .nilFunc⟩ := by kernel_rfl
theorem ti82 : tiOf Try.prog 82 = some ⟨.ptr 84, 1, 8, .pointer none⟩ := by kernel_rfl
theorem ti83 : tiOf Try.prog 83 = some ⟨.agg [(0, 1), (1, 1), (2, 1)], 3, 40, .agg #[(.slice none 0 0), (.int .i64 0), (.int .i64 0)]⟩ := by kernel_rfl
theorem ti84 : tiOf Try.prog 84 = some ⟨.agg [(0, 1), (1, 1), (2, 1)], 3, 40, .agg #[(.slice none 0 0), (.int .i64 0), (.int .i64 0)]⟩ := by kernel_rfl
theorem ti85 : tiOf Try.prog 85 = some ⟨.other, 1, 8, .nilFunc⟩ := by kernel_rfl
theorem ti86 : tiOf Try.prog 86 = some ⟨.other, 1, 8, .nilFunc⟩ := by kernel_rfl
theorem ti87 : tiOf Try.prog 87 = some ⟨.other, 1, 8, .nilFunc⟩ := by kernel_rfl
theorem ti88 : tiOf Try.prog 88 = some ⟨.other, 1, 8, .nilFunc⟩ := by kernel_rfl
theorem ti89 : tiOf Try.prog 89 = some ⟨.other, 1, 8, .nilFunc⟩ := by kernel_rfl
theorem ti90 : tiOf Try.prog 90 = some ⟨.other, 1, 8, .nilFunc⟩ := by kernel_rfl
theorem ti91 : tiOf Try.prog 91 = some ⟨.other, 1, 8, .nilFunc⟩ := by kernel_rfl
theorem ti92 : tiOf Try.prog 92 = some ⟨.other, 1, 8, .nilFunc⟩ := by kernel_rfl
theorem ti93 : tiOf Try.prog 93 = some ⟨.other, 1, 8, .nilFunc⟩ := by kernel_rfl
theorem ti94 : tiOf Try.prog 94 = some ⟨.other, 1, 8, .nilFunc⟩ := by kernel_rfl
theorem ti95 : tiOf Try.prog 95 = some ⟨.other, 1, 8, .nilFunc⟩ := by kernel_rfl
theorem ti96 : tiOf Try.prog 96 = some ⟨.other, 1, 8, .nilFunc⟩ := by kernel_rfl
theorem ti97 : tiOf Try.prog 97 = some ⟨.other, 1, 8, .nilFunc⟩ := by kernel_rfl
theorem ti98 : tiOf Try.prog 98 = some ⟨.other, 1, 8, .nilFunc⟩ := by kernel_rfl
theorem ti99 : tiOf Try.prog 99 = some ⟨.other, 1, 8, .nilFunc⟩ := by kernel_rfl
theorem ti100 : tiOf Try.prog 100 = some ⟨.other, 1, 8, .nilFunc⟩ := by kernel_rfl
theorem ti101 : tiOf Try.prog 101 = some ⟨.other, 1, 8, .nilFunc⟩ := by kernel_rfl
theorem ti102 : tiOf Try.prog 102 = some ⟨.other, 1, 8, .nilFunc⟩ := by kernel_rfl
theorem ti103 : tiOf Try.prog 103 = some ⟨.other, 1, 8, .nilFunc⟩ := by kernel_rfl
theorem ti104 : tiOf Try.prog 104 = some ⟨.other, 1, 8, .nilFunc⟩ := by kernel_rfl
theorem ti105 : tiOf Try.prog 105 = some ⟨.other, 1, 8, .nilFunc⟩ := by kernel_rfl
theorem ti106 : tiOf Try.prog 106 = some ⟨.other, 1, 8, .nilFunc⟩ := by kernel_rfl
theorem ti107 : tiOf Try.prog 107 = some ⟨.other, 1, 8, .nilFunc⟩ := by kernel_rfl
theorem ti109 : tiOf Try.prog 109 = some ⟨.other, 1, 8, .nilFunc⟩ := by kernel_rfl
theorem ti110 : tiOf Try.prog 110 = some ⟨.other, 1, 8, .nilFunc⟩ := by kernel_rfl
theorem ti111 : tiOf Try.prog 111 = some ⟨.agg [(0, 1), (1, 1), (2, 1)], 3, 56, .agg #[(.int .i64 0), (.slice none 0 0), (.slice none 0 0)]⟩ := by kernel_rfl
theorem ti112 : tiOf Try.prog 112 = some ⟨.agg [(0, 1), (1, 1), (2, 1)], 3, 56, .agg #[(.int .i64 0), (.slice none 0 0), (.slice none 0 0)]⟩ := by kernel_rfl
theorem ti113 : tiOf Try.prog 113 = some ⟨.other, 1, 8, .nilFunc⟩ := by kernel_rfl
theorem ti114 : tiOf Try.prog 114 = some ⟨.other, 1, 8, .nilFunc⟩ := by kernel_rfl
theorem ti115 : tiOf Try.prog 115 = some ⟨.other, 1, 8, .nilFunc⟩ := by kernel_rfl
theorem ti116 : tiOf Try.prog 116 = some ⟨.other, 1, 8, .nilFunc⟩ := by kernel_rfl
theorem ti117 : tiOf Try.prog 117 = some ⟨.other, 1, 8, .nilFunc⟩ := by kernel_rfl
theorem ti118 : tiOf Try.prog 118 = some ⟨.other, 1, 8, .nilFunc⟩ := by kernel_rfl
theorem ti119 : tiOf Try.prog 119 = some ⟨.other, 1, 8, .nilFunc⟩ := by kernel_rfl
theorem ti120 : tiOf Try.prog 120 = some ⟨.other, 1, 8, .nilFunc⟩ := by kernel_rfl
theorem ti121 : tiOf Try.prog 121 = some ⟨.other, 1, 8, .nilFunc⟩ := by kernel_rfl
theorem ti122 : tiOf Try.prog 122 = some ⟨.other, 1, 8, .nilFunc⟩ := by kernel_rfl
theorem ti123 : tiOf Try.prog 123 = some ⟨.other, 1, 8, .nilFunc⟩ := by kernel_rfl
theorem ti124 : tiOf Try.prog 124 = some ⟨.other, 1, 8, .nilFunc⟩ := by kernel_rfl
theorem ti125 : tiOf Try.prog 125 = some ⟨.other, 1, 8, .nilFunc⟩ := by kernel_rfl
theorem ti126 : tiOf Try.prog 126 = some ⟨.agg [(0, 1), (1, 1), (2, 1), (3, 1)], 4, 40, .agg #[(.pointer none), (.pointer none), (.pointer none), (.string ⟨⟨[]⟩⟩)]⟩ := by kernel_rfl
theorem ti127 : tiOf Try.prog 127 = some ⟨.agg [(0, 1), (1, 1), (2, 1), (3, 1)], 4, 40, .agg #[(.pointer none), (.pointer none), (.pointer none), (.string ⟨⟨[]⟩⟩)]⟩ := by kernel_rfl
theorem ti128 : tiOf Try.prog 128 = some ⟨.arr 0 16, 0, 0, .agg #[]⟩ := by kernel_rfl
theorem ti129 : tiOf Try.prog 129 = some ⟨.agg [(0, 0)], 0, 0, .agg #[]⟩ := by kernel_rfl
theorem ti130 : tiOf Try.prog 130 = some ⟨.agg [(0, 0)], 0, 0, .agg #[]⟩ := by kernel_rfl
theorem ti131 : tiOf Try.prog 131 = some ⟨.other, 1, 8, .nilFunc⟩ := by kernel_rfl
theorem ti132 : tiOf Try.prog 132 = some ⟨.int .u8, 1, 1, .int .u8 0⟩ := by kernel_rfl
theorem ti133 : tiOf Try.prog 133 = some ⟨.int .u8, 1, 1, .int .u8 0⟩ := by kernel_rfl
theorem ti134 : tiOf Try.prog 134 = some ⟨.other, 1, 8, .nilFunc⟩ := by kernel_rfl
theorem ti135 : tiOf Try.prog 135 = some ⟨.ptr 5, 1, 8, .pointer none⟩ := by kernel_rfl
theorem ti136 : tiOf Try.prog 136 = some ⟨.int .i32, 1, 4, .int .i32 0⟩ := by kernel_rfl
theorem ti137 : tiOf Try.prog 137 = some ⟨.int .i32, 1, 4, .int .i32 0⟩ := by kernel_rfl
theorem ti138 : tiOf Try.prog 138 = some ⟨.agg [(0, 1), (1, 1), (2, 1), (3, 1), (4, 1), (5, 1), (6, 1), (7, 1), (8, 1), (9, 1), (10, 1)], 11, 48, .agg #[(.int .u64 0), (.int .u64 0), (.int .u32 0), (.int .u8 0), (.int .u8 0), (.int .u8 0), (.int .u8 0), (.nilFunc), (.pointer none), (.int .i32 0), (.int .i32 0)]⟩ := by kernel_rfl
theorem ti139 : tiOf Try.prog 139 = some ⟨.agg [(0, 1), (1, 1), (2, 1), (3, 1), (4, 1), (5, 1), (6, 1), (7, 1), (8, 1), (9, 1), (10, 1)], 11, 48, .agg #[(.int .u64 0), (.int .u64 0), (.int .u32 0), (.int .u8 0), (.int .u8 0), (.int .u8 0), (.int .u8 0), (.nilFunc), (.pointer none), (.int .i32 0), (.int .i32 0)]⟩ := by kernel_rfl
end Go.Proofs.Ythhkdanpjcnegaa
