/- The types of this seat's translation, as the abstract layer reads them. Written by program (gentypes.py). -/
import Derived.Test.YthhkdanpjcnegaaGreatProg
import Derived.Test.YthhkdanpjcnegaaGreatAb8
namespace Go.Proofs.YthhkdanpjcnegaaGreat
theorem ti1 : tiOf Tryz.prog 1 = some ⟨.other, 1, 8, .nilFunc⟩ := by kernel_rfl
theorem ti2 : tiOf Tryz.prog 2 = some ⟨.int .i64, 1, 8, .int .i64 0⟩ := by kernel_rfl
theorem ti3 : tiOf Tryz.prog 3 = some ⟨.int .i64, 1, 8, .int .i64 0⟩ := by kernel_rfl
theorem ti4 : tiOf Tryz.prog 4 = some ⟨.bool, 1, 1, .bool false⟩ := by kernel_rfl
theorem ti5 : tiOf Tryz.prog 5 = some ⟨.int .u8, 1, 1, .int .u8 0⟩ := by kernel_rfl
theorem ti6 : tiOf Tryz.prog 6 = some ⟨.int .u8, 1, 1, .int .u8 0⟩ := by kernel_rfl
theorem ti7 : tiOf Tryz.prog 7 = some ⟨.agg [(0, 1), (1, 1), (2, 1), (3, 1)], 4, 24, .agg #[(.int .i64 0), (.int .i64 0), (.bool false), (.int .u8 0)]⟩ := by kernel_rfl
theorem ti9 : tiOf Tryz.prog 9 = some ⟨.str, 1, 16, .string ⟨⟨[]⟩⟩⟩ := by kernel_rfl
theorem ti22 : tiOf Tryz.prog 22 = some ⟨.slc 3, 1, 24, .slice none 0 0⟩ := by kernel_rfl
theorem ti23 : tiOf Tryz.prog 23 = some ⟨.other, 1, 8, .nilFunc⟩ := by kernel_rfl
theorem ti24 : tiOf Tryz.prog 24 = some ⟨.slc 9, 1, 24, .slice none 0 0⟩ := by kernel_rfl
theorem ti25 : tiOf Tryz.prog 25 = some ⟨.slc 53, 1, 24, .slice none 0 0⟩ := by kernel_rfl
theorem ti26 : tiOf Tryz.prog 26 = some ⟨.slc 35, 1, 24, .slice none 0 0⟩ := by kernel_rfl
theorem ti27 : tiOf Tryz.prog 27 = some ⟨.agg [(0, 1), (1, 1), (2, 1), (3, 1), (4, 1), (5, 1)], 6, 112, .agg #[(.string ⟨⟨[]⟩⟩), (.string ⟨⟨[]⟩⟩), (.bool false), (.slice none 0 0), (.slice none 0 0), (.slice none 0 0)]⟩ := by kernel_rfl
theorem ti28 : tiOf Tryz.prog 28 = some ⟨.agg [(0, 1), (1, 1), (2, 1), (3, 1), (4, 1), (5, 1)], 6, 112, .agg #[(.string ⟨⟨[]⟩⟩), (.string ⟨⟨[]⟩⟩), (.bool false), (.slice none 0 0), (.slice none 0 0), (.slice none 0 0)]⟩ := by kernel_rfl
theorem ti29 : tiOf Tryz.prog 29 = some ⟨.other, 1, 8, .nilFunc⟩ := by kernel_rfl
theorem ti30 : tiOf Tryz.prog 30 = some ⟨.ptr 35, 1, 8, .pointer none⟩ := by kernel_rfl
theorem ti31 : tiOf Tryz.prog 31 = some ⟨.slc 37, 1, 24, .slice none 0 0⟩ := by kernel_rfl
theorem ti32 : tiOf Tryz.prog 32 = some ⟨.slc 39, 1, 24, .slice none 0 0⟩ := by kernel_rfl
theorem ti33 : tiOf Tryz.prog 33 = some ⟨.slc 112, 1, 24, .slice none 0 0⟩ := by kernel_rfl
theorem ti34 : tiOf Tryz.prog 34 = some ⟨.agg [(0, 1), (1, 1), (2, 1), (3, 1), (4, 1), (5, 1), (6, 1), (7, 1), (8, 1), (9, 1)], 10, 152, .agg #[(.string ⟨⟨[]⟩⟩), (.slice none 0 0), (.string ⟨⟨[]⟩⟩), (.bool false), (.bool false), (.int .i64 0), (.int .i64 0), (.slice none 0 0), (.slice none 0 0), (.slice none 0 0)]⟩ := by kernel_rfl
theorem ti35 : tiOf Tryz.prog 35 = some ⟨.agg [(0, 1), (1, 1), (2, 1), (3, 1), (4, 1), (5, 1), (6, 1), (7, 1), (8, 1), (9, 1)], 10, 152, .agg #[(.string ⟨⟨[]⟩⟩), (.slice none 0 0), (.string ⟨⟨[]⟩⟩), (.bool false), (.bool false), (.int .i64 0), (.int .i64 0), (.slice none 0 0), (.slice none 0 0), (.slice none 0 0)]⟩ := by kernel_rfl
theorem ti36 : tiOf Tryz.prog 36 = some ⟨.agg [(0, 1), (1, 1), (2, 1), (3, 1)], 4, 48, .agg #[(.int .i64 0), (.int .i64 0), (.string ⟨⟨[]⟩⟩), (.string ⟨⟨[]⟩⟩)]⟩ := by kernel_rfl
theorem ti37 : tiOf Tryz.prog 37 = some ⟨.agg [(0, 1), (1, 1), (2, 1), (3, 1)], 4, 48, .agg #[(.int .i64 0), (.int .i64 0), (.string ⟨⟨[]⟩⟩), (.string ⟨⟨[]⟩⟩)]⟩ := by kernel_rfl
theorem ti38 : tiOf Tryz.prog 38 = some ⟨.agg [(0, 1), (1, 1), (2, 1)], 3, 56, .agg #[(.int .i64 0), (.slice none 0 0), (.slice none 0 0)]⟩ := by kernel_rfl
theorem ti39 : tiOf Tryz.prog 39 = some ⟨.agg [(0, 1), (1, 1), (2, 1)], 3, 56, .agg #[(.int .i64 0), (.slice none 0 0), (.slice none 0 0)]⟩ := by kernel_rfl
theorem ti40 : tiOf Tryz.prog 40 = some ⟨.other, 1, 8, .nilFunc⟩ := by kernel_rfl
theorem ti41 : tiOf Tryz.prog 41 = some ⟨.other, 1, 8, .nilFunc⟩ := by kernel_rfl
theorem ti42 : tiOf Tryz.prog 42 = some ⟨.other, 1, 8, .nilFunc⟩ := by kernel_rfl
theorem ti43 : tiOf Tryz.prog 43 = some ⟨.slc 5, 1, 24, .slice none 0 0⟩ := by kernel_rfl
theorem ti44 : tiOf Tryz.prog 44 = some ⟨.other, 1, 8, .nilFunc⟩ := by kernel_rfl
theorem ti45 : tiOf Tryz.prog 45 = some ⟨.int .i64, 1, 8, .int .i64 0⟩ := by kernel_rfl
theorem ti47 : tiOf Tryz.prog 47 = some ⟨.other, 1, 8, .nilFunc⟩ := by kernel_rfl
theorem ti48 : tiOf Tryz.prog 48 = some ⟨.other, 1, 8, .nilFunc⟩ := by kernel_rfl
theorem ti49 : tiOf Tryz.prog 49 = some ⟨.other, 1, 8, .nilFunc⟩ := by kernel_rfl
theorem ti50 : tiOf Tryz.prog 50 = some ⟨.other, 1, 8, .nilFunc⟩ := by kernel_rfl
theorem ti51 : tiOf Tryz.prog 51 = some ⟨.other, 1, 8, .nilFunc⟩ := by kernel_rfl
theorem ti52 : tiOf Tryz.prog 52 = some ⟨.agg [(0, 1), (1, 1), (2, 1)], 3, 40, .agg #[(.string ⟨⟨[]⟩⟩), (.string ⟨⟨[]⟩⟩), (.bool false)]⟩ := by kernel_rfl
theorem ti53 : tiOf Tryz.prog 53 = some ⟨.agg [(0, 1), (1, 1), (2, 1)], 3, 40, .agg #[(.string ⟨⟨[]⟩⟩), (.string ⟨⟨[]⟩⟩), (.bool false)]⟩ := by kernel_rfl
theorem ti54 : tiOf Tryz.prog 54 = some ⟨.other, 1, 8, .nilFunc⟩ := by kernel_rfl
theorem ti55 : tiOf Tryz.prog 55 = some ⟨.other, 1, 8, .nilFunc⟩ := by kernel_rfl
theorem ti56 : tiOf Tryz.prog 56 = some ⟨.other, 1, 8, .nilFunc⟩ := by kernel_rfl
theorem ti57 : tiOf Tryz.prog 57 = some ⟨.other, 1, 8, .nilFunc⟩ := by kernel_rfl
theorem ti58 : tiOf Tryz.prog 58 = some ⟨.other, 1, 8, .nilFunc⟩ := by kernel_rfl
theorem ti59 : tiOf Tryz.prog 59 = some ⟨.other, 1, 8, .nilFunc⟩ := by kernel_rfl
theorem ti60 : tiOf Tryz.prog 60 = some ⟨.other, 1, 8, .nilFunc⟩ := by kernel_rfl
theorem ti61 : tiOf Tryz.prog 61 = some ⟨.other, 1, 8, .nilFunc⟩ := by kernel_rfl
theorem ti62 : tiOf Tryz.prog 62 = some ⟨.other, 1, 8, .nilFunc⟩ := by kernel_rfl
theorem ti63 : tiOf Tryz.prog 63 = some ⟨.other, 1, 8, .nilFunc⟩ := by kernel_rfl
theorem ti64 : tiOf Tryz.prog 64 = some ⟨.other, 1, 8, .nilFunc⟩ := by kernel_rfl
theorem ti65 : tiOf Tryz.prog 65 = some ⟨.other, 1, 8, .nilFunc⟩ := by kernel_rfl
theorem ti66 : tiOf Tryz.prog 66 = some ⟨.other, 1, 8, .nilFunc⟩ := by kernel_rfl
theorem ti67 : tiOf Tryz.prog 67 = some ⟨.other, 1, 8, .nilFunc⟩ := by kernel_rfl
theorem ti68 : tiOf Tryz.prog 68 = some ⟨.ptr 70, 1, 8, .pointer none⟩ := by kernel_rfl
theorem ti69 : tiOf Tryz.prog 69 = some ⟨.agg [(0, 1), (1, 1)], 2, 48, .agg #[(.slice none 0 0), (.slice none 0 0)]⟩ := by kernel_rfl
theorem ti70 : tiOf Tryz.prog 70 = some ⟨.agg [(0, 1), (1, 1)], 2, 48, .agg #[(.slice none 0 0), (.slice none 0 0)]⟩ := by kernel_rfl
theorem ti71 : tiOf Tryz.prog 71 = some ⟨.other, 1, 8, .nilFunc⟩ := by kernel_rfl
theorem ti72 : tiOf Tryz.prog 72 = some ⟨.other, 1, 8, .nilFunc⟩ := by kernel_rfl
theorem ti73 : tiOf Tryz.prog 73 = some ⟨.other, 1, 8, .nilFunc⟩ := by kernel_rfl
theorem ti74 : tiOf Tryz.prog 74 = some ⟨.other, 1, 8, .nilFunc⟩ := by kernel_rfl
theorem ti75 : tiOf Tryz.prog 75 = some ⟨.other, 1, 8, .nilFunc⟩ := by kernel_rfl
theorem ti76 : tiOf Tryz.prog 76 = some ⟨.other, 1, 8, .nilFunc⟩ := by kernel_rfl
theorem ti77 : tiOf Tryz.prog 77 = some ⟨.other, 1, 8, .nilFunc⟩ := by kernel_rfl
theorem ti78 : tiOf Tryz.prog 78 = some ⟨.other, 1, 8, .nilFunc⟩ := by kernel_rfl
theorem ti79 : tiOf Tryz.prog 79 = some ⟨.other, 1, 8, .nilFunc⟩ := by kernel_rfl
theorem ti80 : tiOf Tryz.prog 80 = some ⟨.ptr 82, 1, 8, .pointer none⟩ := by kernel_rfl
theorem ti81 : tiOf Tryz.prog 81 = some ⟨.agg [(0, 1), (1, 1)], 2, 48, .agg #[(.slice none 0 0), (.slice none 0 0)]⟩ := by kernel_rfl
theorem ti82 : tiOf Tryz.prog 82 = some ⟨.agg [(0, 1), (1, 1)], 2, 48, .agg #[(.slice none 0 0), (.slice none 0 0)]⟩ := by kernel_rfl
theorem ti83 : tiOf Tryz.prog 83 = some ⟨.other, 1, 8, .nilFunc⟩ := by kernel_rfl
theorem ti84 : tiOf Tryz.prog 84 = some ⟨.other, 1, 8, .nilFunc⟩ := by kernel_rfl
theorem ti85 : tiOf Tryz.prog 85 = some ⟨.other, 1, 8, .nilFunc⟩ := by kernel_rfl
theorem ti86 : tiOf Tryz.prog 86 = some ⟨.other, 1, 8, .nilFunc⟩ := by kernel_rfl
theorem ti87 : tiOf Tryz.prog 87 = some ⟨.other, 1, 8, .nilFunc⟩ := by kernel_rfl
theorem ti88 : tiOf Tryz.prog 88 = some ⟨.ptr 90, 1, 8, .pointer none⟩ := by kernel_rfl
theorem ti89 : tiOf Tryz.prog 89 = some ⟨.agg [(0, 1), (1, 1), (2, 1)], 3, 56, .agg #[(.slice none 0 0), (.slice none 0 0), (.bool false)]⟩ := by kernel_rfl
theorem ti90 : tiOf Tryz.prog 90 = some ⟨.agg [(0, 1), (1, 1), (2, 1)], 3, 56, .agg #[(.slice none 0 0), (.slice none 0 0), (.bool false)]⟩ := by kernel_rfl
theorem ti91 : tiOf Tryz.prog 91 = some ⟨.other, 1, 8, .nilFunc⟩ := by kernel_rfl
theorem ti92 : tiOf Tryz.prog 92 = some ⟨.other, 1, 8, .nilFunc⟩ := by kernel_rfl
theorem ti93 : tiOf Tryz.prog 93 = some ⟨.other, 1, 8, .nilFunc⟩ := by kernel_rfl
theorem ti94 : tiOf Tryz.prog 94 = some ⟨.other, 1, 8, .nilFunc⟩ := by kernel_rfl
theorem ti95 : tiOf Tryz.prog 95 = some ⟨.other, 1, 8, .nilFunc⟩ := by kernel_rfl
theorem ti96 : tiOf Tryz.prog 96 = some ⟨.other, 1, 8, .nilFunc⟩ := by kernel_rfl
theorem ti97 : tiOf Tryz.prog 97 = some ⟨.other, 1, 8, .nilFunc⟩ := by kernel_rfl
theorem ti98 : tiOf Tryz.prog 98 = some ⟨.other, 1, 8, .nilFunc⟩ := by kernel_rfl
theorem ti99 : tiOf Tryz.prog 99 = some ⟨.other, 1, 8, .nilFunc⟩ := by kernel_rfl
theorem ti100 : tiOf Tryz.prog 100 = some ⟨.other, 1, 8, .nilFunc⟩ := by kernel_rfl
theorem ti101 : tiOf Tryz.prog 101 = some ⟨.other, 1, 8, .nilFunc⟩ := by kernel_rfl
theorem ti102 : tiOf Tryz.prog 102 = some ⟨.other, 1, 8, .nilFunc⟩ := by kernel_rfl
theorem ti103 : tiOf Tryz.prog 103 = some ⟨.other, 1, 8, .nilFunc⟩ := by kernel_rfl
theorem ti104 : tiOf Tryz.prog 104 = some ⟨.other, 1, 8, .nilFunc⟩ := by kernel_rfl
theorem ti105 : tiOf Tryz.prog 105 = some ⟨.other, 1, 8, .nilFunc⟩ := by kernel_rfl
theorem ti106 : tiOf Tryz.prog 106 = some ⟨.other, 1, 8, .nilFunc⟩ := by kernel_rfl
theorem ti107 : tiOf Tryz.prog 107 = some ⟨.other, 1, 8, .nilFunc⟩ := by kernel_rfl
theorem ti108 : tiOf Tryz.prog 108 = some ⟨.other, 1, 8, .nilFunc⟩ := by kernel_rfl
theorem ti109 : tiOf Tryz.prog 109 = some ⟨.other, 1, 8, .nilFunc⟩ := by kernel_rfl
theorem ti110 : tiOf Tryz.prog 110 = some ⟨.other, 1, 8, .nilFunc⟩ := by kernel_rfl
theorem ti111 : tiOf Tryz.prog 111 = some ⟨.agg [(0, 1), (1, 1), (2, 1), (3, 1)], 4, 40, .agg #[(.int .i64 0), (.int .i64 0), (.int .i64 0), (.string ⟨⟨[]⟩⟩)]⟩ := by kernel_rfl
theorem ti112 : tiOf Tryz.prog 112 = some ⟨.agg [(0, 1), (1, 1), (2, 1), (3, 1)], 4, 40, .agg #[(.int .i64 0), (.int .i64 0), (.int .i64 0), (.string ⟨⟨[]⟩⟩)]⟩ := by kernel_rfl
theorem ti113 : tiOf Tryz.prog 113 = some ⟨.other, 1, 8, .nilFunc⟩ := by kernel_rfl
theorem ti114 : tiOf Tryz.prog 114 = some ⟨.other, 1, 8, .nilFunc⟩ := by kernel_rfl
theorem ti115 : tiOf Tryz.prog 115 = some ⟨.other, 1, 8, .nilFunc⟩ := by kernel_rfl
theorem ti116 : tiOf Tryz.prog 116 = some ⟨.other, 1, 8, .nilFunc⟩ := by kernel_rfl
theorem ti117 : tiOf Tryz.prog 117 = some ⟨.other, 1, 8, .nilFunc⟩ := by kernel_rfl
theorem ti118 : tiOf Tryz.prog 118 = some ⟨.other, 1, 8, .nilFunc⟩ := by kernel_rfl
theorem ti119 : tiOf Tryz.prog 119 = some ⟨.other, 1, 8, .nilFunc⟩ := by kernel_rfl
theorem ti120 : tiOf Tryz.prog 120 = some ⟨.int .u64, 1, 8, .int .u64 0⟩ := by kernel_rfl
theorem ti121 : tiOf Tryz.prog 121 = some ⟨.int .u64, 1, 8, .int .u64 0⟩ := by kernel_rfl
theorem ti122 : tiOf Tryz.prog 122 = some ⟨.other, 1, 8, .nilFunc⟩ := by kernel_rfl
theorem ti124 : tiOf Tryz.prog 124 = some ⟨.other, 1, 8, .nilFunc⟩ := by kernel_rfl
theorem ti125 : tiOf Tryz.prog 125 = some ⟨.other, 1, 8, .nilFunc⟩ := by kernel_rfl
theorem ti126 : tiOf Tryz.prog 126 = some ⟨.other, 1, 8, .nilFunc⟩ := by kernel_rfl
theorem ti127 : tiOf Tryz.prog 127 = some ⟨.other, 1, 8, .nilFunc⟩ := by kernel_rfl
theorem ti128 : tiOf Tryz.prog 128 = some ⟨.other, 1, 8, .nilFunc⟩ := by kernel_rfl
theorem ti129 : tiOf Tryz.prog 129 = some ⟨.other, 1, 8, .nilFunc⟩ := by kernel_rfl
theorem ti130 : tiOf Tryz.prog 130 = some ⟨.other, 1, 8, .nilFunc⟩ := by kernel_rfl
theorem ti131 : tiOf Tryz.prog 131 = some ⟨.other, 1, 8, .nilFunc⟩ := by kernel_rfl
theorem ti132 : tiOf Tryz.prog 132 = some ⟨.other, 1, 8, .nilFunc⟩ := by kernel_rfl
theorem ti133 : tiOf Tryz.prog 133 = some ⟨.other, 1, 8, .nilFunc⟩ := by kernel_rfl
theorem ti135 : tiOf Tryz.prog 135 = some ⟨.other, 1, 8, .nilFunc⟩ := by kernel_rfl
theorem ti136 : tiOf Tryz.prog 136 = some ⟨.other, 1, 8, .nilFunc⟩ := by kernel_rfl
theorem ti137 : tiOf Tryz.prog 137 = some ⟨.other, 1, 8, .nilFunc⟩ := by kernel_rfl
theorem ti138 : tiOf Tryz.prog 138 = some ⟨.other, 1, 8, .nilFunc⟩ := by kernel_rfl
theorem ti139 : tiOf Tryz.prog 139 = some ⟨.other, 1, 8, .nilFunc⟩ := by kernel_rfl
theorem ti140 : tiOf Tryz.prog 140 = some ⟨.other, 1, 8, .nilFunc⟩ := by kernel_rfl
theorem ti141 : tiOf Tryz.prog 141 = some ⟨.other, 1, 8, .nilFunc⟩ := by kernel_rfl
theorem ti142 : tiOf Tryz.prog 142 = some ⟨.other, 1, 8, .nilFunc⟩ := by kernel_rfl
theorem ti143 : tiOf Tryz.prog 143 = some ⟨.other, 1, 8, .nilFunc⟩ := by kernel_rfl
theorem ti144 : tiOf Tryz.prog 144 = some ⟨.other, 1, 8, .nilFunc⟩ := by kernel_rfl
theorem ti145 : tiOf Tryz.prog 145 = some ⟨.other, 1, 8, .nilFunc⟩ := by kernel_rfl
theorem ti146 : tiOf Tryz.prog 146 = some ⟨.other, 1, 8, .nilFunc⟩ := by kernel_rfl
theorem ti148 : tiOf Tryz.prog 148 = some ⟨.other, 1, 8, .nilFunc⟩ := by kernel_rfl
theorem ti149 : tiOf Tryz.prog 149 = some ⟨.ptr 151, 1, 8, .pointer none⟩ := by kernel_rfl
theorem ti150 : tiOf Tryz.prog 150 = some ⟨.agg [(0, 1), (1, 1), (2, 1)], 3, 40, .agg #[(.slice none 0 0), (.int .i64 0), (.int .i64 0)]⟩ := by kernel_rfl
theorem ti151 : tiOf Tryz.prog 151 = some ⟨.agg [(0, 1), (1, 1), (2, 1)], 3, 40, .agg #[(.slice none 0 0), (.int .i64 0), (.int .i64 0)]⟩ := by kernel_rfl
theorem ti152 : tiOf Tryz.prog 152 = some ⟨.other, 1, 8, .nilFunc⟩ := by kernel_rfl
theorem ti153 : tiOf Tryz.prog 153 = some ⟨.other, 1, 8, .nilFunc⟩ := by kernel_rfl
theorem ti154 : tiOf Tryz.prog 154 = some ⟨.other, 1, 8, .nilFunc⟩ := by kernel_rfl
theorem ti155 : tiOf Tryz.prog 155 = some ⟨.other, 1, 8, .nilFunc⟩ := by kernel_rfl
theorem ti156 : tiOf Tryz.prog 156 = some ⟨.other, 1, 8, .nilFunc⟩ := by kernel_rfl
theorem ti157 : tiOf Tryz.prog 157 = some ⟨.other, 1, 8, .nilFunc⟩ := by kernel_rfl
theorem ti159 : tiOf Tryz.prog 159 = some ⟨.other, 1, 8, .nilFunc⟩ := by kernel_rfl
theorem ti161 : tiOf Tryz.prog 161 = some ⟨.other, 1, 8, .nilFunc⟩ := by kernel_rfl
theorem ti162 : tiOf Tryz.prog 162 = some ⟨.agg [(0, 1), (1, 1), (2, 1), (3, 1)], 4, 40, .agg #[(.pointer none), (.pointer none), (.pointer none), (.string ⟨⟨[]⟩⟩)]⟩ := by kernel_rfl
theorem ti163 : tiOf Tryz.prog 163 = some ⟨.agg [(0, 1), (1, 1), (2, 1), (3, 1)], 4, 40, .agg #[(.pointer none), (.pointer none), (.pointer none), (.string ⟨⟨[]⟩⟩)]⟩ := by kernel_rfl
theorem ti164 : tiOf Tryz.prog 164 = some ⟨.arr 0 16, 0, 0, .agg #[]⟩ := by kernel_rfl
theorem ti165 : tiOf Tryz.prog 165 = some ⟨.agg [(0, 0)], 0, 0, .agg #[]⟩ := by kernel_rfl
theorem ti166 : tiOf Tryz.prog 166 = some ⟨.agg [(0, 0)], 0, 0, .agg #[]⟩ := by kernel_rfl
theorem ti167 : tiOf Tryz.prog 167 = some ⟨.int .u32, 1, 4, .int .u32 0⟩ := by kernel_rfl
theorem ti168 : tiOf Tryz.prog 168 = some ⟨.int .u8, 1, 1, .int .u8 0⟩ := by kernel_rfl
theorem ti169 : tiOf Tryz.prog 169 = some ⟨.int .u8, 1, 1, .int .u8 0⟩ := by kernel_rfl
theorem ti170 : tiOf Tryz.prog 170 = some ⟨.other, 1, 8, .nilFunc⟩ := by kernel_rfl
theorem ti171 : tiOf Tryz.prog 171 = some ⟨.ptr 5, 1, 8, .pointer none⟩ := by kernel_rfl
theorem ti172 : tiOf Tryz.prog 172 = some ⟨.int .i32, 1, 4, .int .i32 0⟩ := by kernel_rfl
theorem ti173 : tiOf Tryz.prog 173 = some ⟨.int .i32, 1, 4, .int .i32 0⟩ := by kernel_rfl
theorem ti174 : tiOf Tryz.prog 174 = some ⟨.agg [(0, 1), (1, 1), (2, 1), (3, 1), (4, 1), (5, 1), (6, 1), (7, 1), (8, 1), (9, 1), (10, 1)], 11, 48, .agg #[(.int .u64 0), (.int .u64 0), (.int .u32 0), (.int .u8 0), (.int .u8 0), (.int .u8 0), (.int .u8 0), (.nilFunc), (.pointer none), (.int .i32 0), (.int .i32 0)]⟩ := by kernel_rfl
theorem ti175 : tiOf Tryz.prog 175 = some ⟨.agg [(0, 1), (1, 1), (2, 1), (3, 1), (4, 1), (5, 1), (6, 1), (7, 1), (8, 1), (9, 1), (10, 1)], 11, 48, .agg #[(.int .u64 0), (.int .u64 0), (.int .u32 0), (.int .u8 0), (.int .u8 0), (.int .u8 0), (.int .u8 0), (.nilFunc), (.pointer none), (.int .i32 0), (.int .i32 0)]⟩ := by kernel_rfl
end Go.Proofs.YthhkdanpjcnegaaGreat
