/- The types of the program's operations, as a table, asked of the loaded program by computation. No condition. -/
import Derived.Test.YtdeockoaalpcjaaA11
import Derived.Test.YtdeockoaalpcjaaProg
import Derived.KernelRfl
namespace Go.Proofs.Ytdeockoaalpcjaa
open Go.RowKit
def ti3 : TI := ⟨.int .i64, 1, 8, (.sc (.int .i64 0)), none⟩
def ti4 : TI := ⟨.bool, 1, 1, (.sc (.bool false)), none⟩
def ti5 : TI := ⟨.int .u8, 1, 1, (.sc (.int .u8 0)), none⟩
def ti9 : TI := ⟨.str, 1, 16, (.sc (.str ⟨#[]⟩)), none⟩
def ti22 : TI := ⟨.int .i64, 1, 8, (.sc (.int .i64 0)), none⟩
def ti23 : TI := ⟨.slice 22, 1, 24, .sc .nils, none⟩
def ti24 : TI := ⟨.slice 3, 1, 24, .sc .nils, none⟩
def ti25 : TI := ⟨.slice 24, 1, 24, .sc .nils, none⟩
def ti28 : TI := ⟨.struct [(0, 3), (1, 5)], 2, 16, .agg [.int .i64 0, .int .u8 0], some [.int .i64, .int .u8]⟩
def ti37 : TI := ⟨.arr 6 3, 6, 48, .agg [.int .i64 0, .int .i64 0, .int .i64 0, .int .i64 0, .int .i64 0, .int .i64 0], some [.int .i64, .int .i64, .int .i64, .int .i64, .int .i64, .int .i64]⟩
def ti38 : TI := ⟨.arr 6 3, 6, 48, .agg [.int .i64 0, .int .i64 0, .int .i64 0, .int .i64 0, .int .i64 0, .int .i64 0], some [.int .i64, .int .i64, .int .i64, .int .i64, .int .i64, .int .i64]⟩
def ti39 : TI := ⟨.arr 6 38, 36, 288, .agg [.int .i64 0, .int .i64 0, .int .i64 0, .int .i64 0, .int .i64 0, .int .i64 0, .int .i64 0, .int .i64 0, .int .i64 0, .int .i64 0, .int .i64 0, .int .i64 0, .int .i64 0, .int .i64 0, .int .i64 0, .int .i64 0, .int .i64 0, .int .i64 0, .int .i64 0, .int .i64 0, .int .i64 0, .int .i64 0, .int .i64 0, .int .i64 0, .int .i64 0, .int .i64 0, .int .i64 0, .int .i64 0, .int .i64 0, .int .i64 0, .int .i64 0, .int .i64 0, .int .i64 0, .int .i64 0, .int .i64 0, .int .i64 0], some [.int .i64, .int .i64, .int .i64, .int .i64, .int .i64, .int .i64, .int .i64, .int .i64, .int .i64, .int .i64, .int .i64, .int .i64, .int .i64, .int .i64, .int .i64, .int .i64, .int .i64, .int .i64, .int .i64, .int .i64, .int .i64, .int .i64, .int .i64, .int .i64, .int .i64, .int .i64, .int .i64, .int .i64, .int .i64, .int .i64, .int .i64, .int .i64, .int .i64, .int .i64, .int .i64, .int .i64]⟩
def ti41 : TI := ⟨.struct [(0, 3), (1, 3), (2, 39)], 38, 304, .agg [.int .i64 0, .int .i64 0, .int .i64 0, .int .i64 0, .int .i64 0, .int .i64 0, .int .i64 0, .int .i64 0, .int .i64 0, .int .i64 0, .int .i64 0, .int .i64 0, .int .i64 0, .int .i64 0, .int .i64 0, .int .i64 0, .int .i64 0, .int .i64 0, .int .i64 0, .int .i64 0, .int .i64 0, .int .i64 0, .int .i64 0, .int .i64 0, .int .i64 0, .int .i64 0, .int .i64 0, .int .i64 0, .int .i64 0, .int .i64 0, .int .i64 0, .int .i64 0, .int .i64 0, .int .i64 0, .int .i64 0, .int .i64 0, .int .i64 0, .int .i64 0], some [.int .i64, .int .i64, .int .i64, .int .i64, .int .i64, .int .i64, .int .i64, .int .i64, .int .i64, .int .i64, .int .i64, .int .i64, .int .i64, .int .i64, .int .i64, .int .i64, .int .i64, .int .i64, .int .i64, .int .i64, .int .i64, .int .i64, .int .i64, .int .i64, .int .i64, .int .i64, .int .i64, .int .i64, .int .i64, .int .i64, .int .i64, .int .i64, .int .i64, .int .i64, .int .i64, .int .i64, .int .i64, .int .i64]⟩
def ti58 : TI := ⟨.arr 6 4, 6, 6, .agg [.bool false, .bool false, .bool false, .bool false, .bool false, .bool false], some [.bool, .bool, .bool, .bool, .bool, .bool]⟩
def ti60 : TI := ⟨.struct [(0, 3), (1, 3), (2, 37), (8, 37), (14, 58)], 20, 120, .agg [.int .i64 0, .int .i64 0, .int .i64 0, .int .i64 0, .int .i64 0, .int .i64 0, .int .i64 0, .int .i64 0, .int .i64 0, .int .i64 0, .int .i64 0, .int .i64 0, .int .i64 0, .int .i64 0, .bool false, .bool false, .bool false, .bool false, .bool false, .bool false], some [.int .i64, .int .i64, .int .i64, .int .i64, .int .i64, .int .i64, .int .i64, .int .i64, .int .i64, .int .i64, .int .i64, .int .i64, .int .i64, .int .i64, .bool, .bool, .bool, .bool, .bool, .bool]⟩
def ti70 : TI := ⟨.slice 4, 1, 24, .sc .nils, none⟩
def ti74 : TI := ⟨.struct [(0, 3), (1, 3), (2, 3), (3, 3), (4, 3), (5, 38), (11, 9)], 12, 104, .agg [.int .i64 0, .int .i64 0, .int .i64 0, .int .i64 0, .int .i64 0, .int .i64 0, .int .i64 0, .int .i64 0, .int .i64 0, .int .i64 0, .int .i64 0, .str ⟨#[]⟩], some [.int .i64, .int .i64, .int .i64, .int .i64, .int .i64, .int .i64, .int .i64, .int .i64, .int .i64, .int .i64, .int .i64, .str]⟩
def ti81 : TI := ⟨.int .u32, 1, 4, (.sc (.int .u32 0)), none⟩
def ti84 : TI := ⟨.slice 88, 1, 24, .sc .nils, none⟩
def ti86 : TI := ⟨.struct [(0, 3), (1, 38), (7, 84)], 8, 80, .agg [.int .i64 0, .int .i64 0, .int .i64 0, .int .i64 0, .int .i64 0, .int .i64 0, .int .i64 0, .nils], none⟩
def ti88 : TI := ⟨.struct [(0, 3), (1, 38), (7, 9)], 8, 72, .agg [.int .i64 0, .int .i64 0, .int .i64 0, .int .i64 0, .int .i64 0, .int .i64 0, .int .i64 0, .str ⟨#[]⟩], some [.int .i64, .int .i64, .int .i64, .int .i64, .int .i64, .int .i64, .int .i64, .str]⟩
def ti99 : TI := ⟨.struct [(0, 3), (1, 3), (2, 25), (3, 24), (4, 24)], 5, 88, .agg [.int .i64 0, .int .i64 0, .nils, .nils, .nils], none⟩
def ti101 : TI := ⟨.struct [(0, 3), (1, 3), (2, 3)], 3, 24, .agg [.int .i64 0, .int .i64 0, .int .i64 0], some [.int .i64, .int .i64, .int .i64]⟩
def ti107 : TI := ⟨.arr 6 24, 6, 144, .agg [.nils, .nils, .nils, .nils, .nils, .nils], none⟩
def ti109 : TI := ⟨.struct [(0, 28), (2, 5), (3, 107)], 9, 168, .agg [.int .i64 0, .int .u8 0, .int .u8 0, .nils, .nils, .nils, .nils, .nils, .nils], none⟩
def ti123 : TI := ⟨.slice 127, 1, 24, .sc .nils, none⟩
def ti125 : TI := ⟨.struct [(0, 3), (1, 123)], 2, 32, .agg [.int .i64 0, .nils], none⟩
def ti127 : TI := ⟨.struct [(0, 3), (1, 9)], 2, 24, .agg [.int .i64 0, .str ⟨#[]⟩], some [.int .i64, .str]⟩
def ti129 : TI := ⟨.slice 9, 1, 24, .sc .nils, none⟩
def ti137 : TI := ⟨.slice 157, 1, 24, .sc .nils, none⟩
def ti139 : TI := ⟨.struct [(0, 3), (1, 3), (2, 137)], 3, 40, .agg [.int .i64 0, .int .i64 0, .nils], none⟩
def ti141 : TI := ⟨.struct [(0, 3), (1, 3)], 2, 16, .agg [.int .i64 0, .int .i64 0], some [.int .i64, .int .i64]⟩
def ti142 : TI := ⟨.slice 141, 1, 24, .sc .nils, none⟩
def ti157 : TI := ⟨.struct [(0, 3), (1, 141), (3, 4)], 4, 32, .agg [.int .i64 0, .int .i64 0, .int .i64 0, .bool false], some [.int .i64, .int .i64, .int .i64, .bool]⟩
def ti161 : TI := ⟨.slice 231, 1, 24, .sc .nils, none⟩
def ti162 : TI := ⟨.slice 229, 1, 24, .sc .nils, none⟩
def ti164 : TI := ⟨.struct [(0, 161), (1, 162)], 2, 48, .agg [.nils, .nils], none⟩
def ti166 : TI := ⟨.struct [(0, 3), (1, 3), (2, 3), (3, 9)], 4, 40, .agg [.int .i64 0, .int .i64 0, .int .i64 0, .str ⟨#[]⟩], some [.int .i64, .int .i64, .int .i64, .str]⟩
def ti175 : TI := ⟨.int .u64, 1, 8, (.sc (.int .u64 0)), none⟩
def ti178 : TI := ⟨.int .u16, 1, 2, (.sc (.int .u16 0)), none⟩
def ti183 : TI := ⟨.slice 185, 1, 24, .sc .nils, none⟩
def ti185 : TI := ⟨.struct [(0, 3), (1, 3), (2, 3), (3, 3)], 4, 32, .agg [.int .i64 0, .int .i64 0, .int .i64 0, .int .i64 0], some [.int .i64, .int .i64, .int .i64, .int .i64]⟩
def ti187 : TI := ⟨.slice 5, 1, 24, .sc .nils, none⟩
def ti191 : TI := ⟨.int .u64, 1, 8, (.sc (.int .u64 0)), none⟩
def ti208 : TI := ⟨.arr 30 4, 30, 30, .agg [.bool false, .bool false, .bool false, .bool false, .bool false, .bool false, .bool false, .bool false, .bool false, .bool false, .bool false, .bool false, .bool false, .bool false, .bool false, .bool false, .bool false, .bool false, .bool false, .bool false, .bool false, .bool false, .bool false, .bool false, .bool false, .bool false, .bool false, .bool false, .bool false, .bool false], some [.bool, .bool, .bool, .bool, .bool, .bool, .bool, .bool, .bool, .bool, .bool, .bool, .bool, .bool, .bool, .bool, .bool, .bool, .bool, .bool, .bool, .bool, .bool, .bool, .bool, .bool, .bool, .bool, .bool, .bool]⟩
def ti215 : TI := ⟨.map 3 9, 1, 8, .sc .nilm, none⟩
def ti226 : TI := ⟨.slice 137, 1, 24, .sc .nils, none⟩
def ti229 : TI := ⟨.struct [(0, 3), (1, 3), (2, 5), (3, 5), (4, 4), (5, 9)], 6, 40, .agg [.int .i64 0, .int .i64 0, .int .u8 0, .int .u8 0, .bool false, .str ⟨#[]⟩], some [.int .i64, .int .i64, .int .u8, .int .u8, .bool, .str]⟩
def ti231 : TI := ⟨.struct [(0, 3), (1, 3), (2, 9)], 3, 32, .agg [.int .i64 0, .int .i64 0, .str ⟨#[]⟩], some [.int .i64, .int .i64, .str]⟩
def ti233 : TI := ⟨.ptr, 1, 8, .sc .nilp, none⟩
def ti259 : TI := ⟨.int .i64, 1, 8, (.sc (.int .i64 0)), none⟩
def ti274 : TI := ⟨.int .u64, 1, 8, (.sc (.int .u64 0)), none⟩
def tab (t : TypeId) : Option TI :=
  match t with
  | 3 => some ti3
  | 4 => some ti4
  | 5 => some ti5
  | 9 => some ti9
  | 22 => some ti22
  | 23 => some ti23
  | 24 => some ti24
  | 25 => some ti25
  | 28 => some ti28
  | 37 => some ti37
  | 38 => some ti38
  | 39 => some ti39
  | 41 => some ti41
  | 58 => some ti58
  | 60 => some ti60
  | 70 => some ti70
  | 74 => some ti74
  | 81 => some ti81
  | 84 => some ti84
  | 86 => some ti86
  | 88 => some ti88
  | 99 => some ti99
  | 101 => some ti101
  | 107 => some ti107
  | 109 => some ti109
  | 123 => some ti123
  | 125 => some ti125
  | 127 => some ti127
  | 129 => some ti129
  | 137 => some ti137
  | 139 => some ti139
  | 141 => some ti141
  | 142 => some ti142
  | 157 => some ti157
  | 161 => some ti161
  | 162 => some ti162
  | 164 => some ti164
  | 166 => some ti166
  | 175 => some ti175
  | 178 => some ti178
  | 183 => some ti183
  | 185 => some ti185
  | 187 => some ti187
  | 191 => some ti191
  | 208 => some ti208
  | 215 => some ti215
  | 226 => some ti226
  | 229 => some ti229
  | 231 => some ti231
  | 233 => some ti233
  | 259 => some ti259
  | 274 => some ti274
  | _ => none
theorem tab3 : tab 3 = some ⟨.int .i64, 1, 8, (.sc (.int .i64 0)), none⟩ := rfl
theorem tab4 : tab 4 = some ⟨.bool, 1, 1, (.sc (.bool false)), none⟩ := rfl
theorem tab5 : tab 5 = some ⟨.int .u8, 1, 1, (.sc (.int .u8 0)), none⟩ := rfl
theorem tab9 : tab 9 = some ⟨.str, 1, 16, (.sc (.str ⟨#[]⟩)), none⟩ := rfl
theorem tab22 : tab 22 = some ⟨.int .i64, 1, 8, (.sc (.int .i64 0)), none⟩ := rfl
theorem tab23 : tab 23 = some ⟨.slice 22, 1, 24, .sc .nils, none⟩ := rfl
theorem tab24 : tab 24 = some ⟨.slice 3, 1, 24, .sc .nils, none⟩ := rfl
theorem tab25 : tab 25 = some ⟨.slice 24, 1, 24, .sc .nils, none⟩ := rfl
theorem tab28 : tab 28 = some ⟨.struct [(0, 3), (1, 5)], 2, 16, .agg [.int .i64 0, .int .u8 0], some [.int .i64, .int .u8]⟩ := rfl
theorem tab37 : tab 37 = some ⟨.arr 6 3, 6, 48, .agg [.int .i64 0, .int .i64 0, .int .i64 0, .int .i64 0, .int .i64 0, .int .i64 0], some [.int .i64, .int .i64, .int .i64, .int .i64, .int .i64, .int .i64]⟩ := rfl
theorem tab38 : tab 38 = some ⟨.arr 6 3, 6, 48, .agg [.int .i64 0, .int .i64 0, .int .i64 0, .int .i64 0, .int .i64 0, .int .i64 0], some [.int .i64, .int .i64, .int .i64, .int .i64, .int .i64, .int .i64]⟩ := rfl
theorem tab39 : tab 39 = some ⟨.arr 6 38, 36, 288, .agg [.int .i64 0, .int .i64 0, .int .i64 0, .int .i64 0, .int .i64 0, .int .i64 0, .int .i64 0, .int .i64 0, .int .i64 0, .int .i64 0, .int .i64 0, .int .i64 0, .int .i64 0, .int .i64 0, .int .i64 0, .int .i64 0, .int .i64 0, .int .i64 0, .int .i64 0, .int .i64 0, .int .i64 0, .int .i64 0, .int .i64 0, .int .i64 0, .int .i64 0, .int .i64 0, .int .i64 0, .int .i64 0, .int .i64 0, .int .i64 0, .int .i64 0, .int .i64 0, .int .i64 0, .int .i64 0, .int .i64 0, .int .i64 0], some [.int .i64, .int .i64, .int .i64, .int .i64, .int .i64, .int .i64, .int .i64, .int .i64, .int .i64, .int .i64, .int .i64, .int .i64, .int .i64, .int .i64, .int .i64, .int .i64, .int .i64, .int .i64, .int .i64, .int .i64, .int .i64, .int .i64, .int .i64, .int .i64, .int .i64, .int .i64, .int .i64, .int .i64, .int .i64, .int .i64, .int .i64, .int .i64, .int .i64, .int .i64, .int .i64, .int .i64]⟩ := rfl
theorem tab41 : tab 41 = some ⟨.struct [(0, 3), (1, 3), (2, 39)], 38, 304, .agg [.int .i64 0, .int .i64 0, .int .i64 0, .int .i64 0, .int .i64 0, .int .i64 0, .int .i64 0, .int .i64 0, .int .i64 0, .int .i64 0, .int .i64 0, .int .i64 0, .int .i64 0, .int .i64 0, .int .i64 0, .int .i64 0, .int .i64 0, .int .i64 0, .int .i64 0, .int .i64 0, .int .i64 0, .int .i64 0, .int .i64 0, .int .i64 0, .int .i64 0, .int .i64 0, .int .i64 0, .int .i64 0, .int .i64 0, .int .i64 0, .int .i64 0, .int .i64 0, .int .i64 0, .int .i64 0, .int .i64 0, .int .i64 0, .int .i64 0, .int .i64 0], some [.int .i64, .int .i64, .int .i64, .int .i64, .int .i64, .int .i64, .int .i64, .int .i64, .int .i64, .int .i64, .int .i64, .int .i64, .int .i64, .int .i64, .int .i64, .int .i64, .int .i64, .int .i64, .int .i64, .int .i64, .int .i64, .int .i64, .int .i64, .int .i64, .int .i64, .int .i64, .int .i64, .int .i64, .int .i64, .int .i64, .int .i64, .int .i64, .int .i64, .int .i64, .int .i64, .int .i64, .int .i64, .int .i64]⟩ := rfl
theorem tab58 : tab 58 = some ⟨.arr 6 4, 6, 6, .agg [.bool false, .bool false, .bool false, .bool false, .bool false, .bool false], some [.bool, .bool, .bool, .bool, .bool, .bool]⟩ := rfl
theorem tab60 : tab 60 = some ⟨.struct [(0, 3), (1, 3), (2, 37), (8, 37), (14, 58)], 20, 120, .agg [.int .i64 0, .int .i64 0, .int .i64 0, .int .i64 0, .int .i64 0, .int .i64 0, .int .i64 0, .int .i64 0, .int .i64 0, .int .i64 0, .int .i64 0, .int .i64 0, .int .i64 0, .int .i64 0, .bool false, .bool false, .bool false, .bool false, .bool false, .bool false], some [.int .i64, .int .i64, .int .i64, .int .i64, .int .i64, .int .i64, .int .i64, .int .i64, .int .i64, .int .i64, .int .i64, .int .i64, .int .i64, .int .i64, .bool, .bool, .bool, .bool, .bool, .bool]⟩ := rfl
theorem tab70 : tab 70 = some ⟨.slice 4, 1, 24, .sc .nils, none⟩ := rfl
theorem tab74 : tab 74 = some ⟨.struct [(0, 3), (1, 3), (2, 3), (3, 3), (4, 3), (5, 38), (11, 9)], 12, 104, .agg [.int .i64 0, .int .i64 0, .int .i64 0, .int .i64 0, .int .i64 0, .int .i64 0, .int .i64 0, .int .i64 0, .int .i64 0, .int .i64 0, .int .i64 0, .str ⟨#[]⟩], some [.int .i64, .int .i64, .int .i64, .int .i64, .int .i64, .int .i64, .int .i64, .int .i64, .int .i64, .int .i64, .int .i64, .str]⟩ := rfl
theorem tab81 : tab 81 = some ⟨.int .u32, 1, 4, (.sc (.int .u32 0)), none⟩ := rfl
theorem tab84 : tab 84 = some ⟨.slice 88, 1, 24, .sc .nils, none⟩ := rfl
theorem tab86 : tab 86 = some ⟨.struct [(0, 3), (1, 38), (7, 84)], 8, 80, .agg [.int .i64 0, .int .i64 0, .int .i64 0, .int .i64 0, .int .i64 0, .int .i64 0, .int .i64 0, .nils], none⟩ := rfl
theorem tab88 : tab 88 = some ⟨.struct [(0, 3), (1, 38), (7, 9)], 8, 72, .agg [.int .i64 0, .int .i64 0, .int .i64 0, .int .i64 0, .int .i64 0, .int .i64 0, .int .i64 0, .str ⟨#[]⟩], some [.int .i64, .int .i64, .int .i64, .int .i64, .int .i64, .int .i64, .int .i64, .str]⟩ := rfl
theorem tab99 : tab 99 = some ⟨.struct [(0, 3), (1, 3), (2, 25), (3, 24), (4, 24)], 5, 88, .agg [.int .i64 0, .int .i64 0, .nils, .nils, .nils], none⟩ := rfl
theorem tab101 : tab 101 = some ⟨.struct [(0, 3), (1, 3), (2, 3)], 3, 24, .agg [.int .i64 0, .int .i64 0, .int .i64 0], some [.int .i64, .int .i64, .int .i64]⟩ := rfl
theorem tab107 : tab 107 = some ⟨.arr 6 24, 6, 144, .agg [.nils, .nils, .nils, .nils, .nils, .nils], none⟩ := rfl
theorem tab109 : tab 109 = some ⟨.struct [(0, 28), (2, 5), (3, 107)], 9, 168, .agg [.int .i64 0, .int .u8 0, .int .u8 0, .nils, .nils, .nils, .nils, .nils, .nils], none⟩ := rfl
theorem tab123 : tab 123 = some ⟨.slice 127, 1, 24, .sc .nils, none⟩ := rfl
theorem tab125 : tab 125 = some ⟨.struct [(0, 3), (1, 123)], 2, 32, .agg [.int .i64 0, .nils], none⟩ := rfl
theorem tab127 : tab 127 = some ⟨.struct [(0, 3), (1, 9)], 2, 24, .agg [.int .i64 0, .str ⟨#[]⟩], some [.int .i64, .str]⟩ := rfl
theorem tab129 : tab 129 = some ⟨.slice 9, 1, 24, .sc .nils, none⟩ := rfl
theorem tab137 : tab 137 = some ⟨.slice 157, 1, 24, .sc .nils, none⟩ := rfl
theorem tab139 : tab 139 = some ⟨.struct [(0, 3), (1, 3), (2, 137)], 3, 40, .agg [.int .i64 0, .int .i64 0, .nils], none⟩ := rfl
theorem tab141 : tab 141 = some ⟨.struct [(0, 3), (1, 3)], 2, 16, .agg [.int .i64 0, .int .i64 0], some [.int .i64, .int .i64]⟩ := rfl
theorem tab142 : tab 142 = some ⟨.slice 141, 1, 24, .sc .nils, none⟩ := rfl
theorem tab157 : tab 157 = some ⟨.struct [(0, 3), (1, 141), (3, 4)], 4, 32, .agg [.int .i64 0, .int .i64 0, .int .i64 0, .bool false], some [.int .i64, .int .i64, .int .i64, .bool]⟩ := rfl
theorem tab161 : tab 161 = some ⟨.slice 231, 1, 24, .sc .nils, none⟩ := rfl
theorem tab162 : tab 162 = some ⟨.slice 229, 1, 24, .sc .nils, none⟩ := rfl
theorem tab164 : tab 164 = some ⟨.struct [(0, 161), (1, 162)], 2, 48, .agg [.nils, .nils], none⟩ := rfl
theorem tab166 : tab 166 = some ⟨.struct [(0, 3), (1, 3), (2, 3), (3, 9)], 4, 40, .agg [.int .i64 0, .int .i64 0, .int .i64 0, .str ⟨#[]⟩], some [.int .i64, .int .i64, .int .i64, .str]⟩ := rfl
theorem tab175 : tab 175 = some ⟨.int .u64, 1, 8, (.sc (.int .u64 0)), none⟩ := rfl
theorem tab178 : tab 178 = some ⟨.int .u16, 1, 2, (.sc (.int .u16 0)), none⟩ := rfl
theorem tab183 : tab 183 = some ⟨.slice 185, 1, 24, .sc .nils, none⟩ := rfl
theorem tab185 : tab 185 = some ⟨.struct [(0, 3), (1, 3), (2, 3), (3, 3)], 4, 32, .agg [.int .i64 0, .int .i64 0, .int .i64 0, .int .i64 0], some [.int .i64, .int .i64, .int .i64, .int .i64]⟩ := rfl
theorem tab187 : tab 187 = some ⟨.slice 5, 1, 24, .sc .nils, none⟩ := rfl
theorem tab191 : tab 191 = some ⟨.int .u64, 1, 8, (.sc (.int .u64 0)), none⟩ := rfl
theorem tab208 : tab 208 = some ⟨.arr 30 4, 30, 30, .agg [.bool false, .bool false, .bool false, .bool false, .bool false, .bool false, .bool false, .bool false, .bool false, .bool false, .bool false, .bool false, .bool false, .bool false, .bool false, .bool false, .bool false, .bool false, .bool false, .bool false, .bool false, .bool false, .bool false, .bool false, .bool false, .bool false, .bool false, .bool false, .bool false, .bool false], some [.bool, .bool, .bool, .bool, .bool, .bool, .bool, .bool, .bool, .bool, .bool, .bool, .bool, .bool, .bool, .bool, .bool, .bool, .bool, .bool, .bool, .bool, .bool, .bool, .bool, .bool, .bool, .bool, .bool, .bool]⟩ := rfl
theorem tab215 : tab 215 = some ⟨.map 3 9, 1, 8, .sc .nilm, none⟩ := rfl
theorem tab226 : tab 226 = some ⟨.slice 137, 1, 24, .sc .nils, none⟩ := rfl
theorem tab229 : tab 229 = some ⟨.struct [(0, 3), (1, 3), (2, 5), (3, 5), (4, 4), (5, 9)], 6, 40, .agg [.int .i64 0, .int .i64 0, .int .u8 0, .int .u8 0, .bool false, .str ⟨#[]⟩], some [.int .i64, .int .i64, .int .u8, .int .u8, .bool, .str]⟩ := rfl
theorem tab231 : tab 231 = some ⟨.struct [(0, 3), (1, 3), (2, 9)], 3, 32, .agg [.int .i64 0, .int .i64 0, .str ⟨#[]⟩], some [.int .i64, .int .i64, .str]⟩ := rfl
theorem tab233 : tab 233 = some ⟨.ptr, 1, 8, .sc .nilp, none⟩ := rfl
theorem tab259 : tab 259 = some ⟨.int .i64, 1, 8, (.sc (.int .i64 0)), none⟩ := rfl
theorem tab274 : tab 274 = some ⟨.int .u64, 1, 8, (.sc (.int .u64 0)), none⟩ := rfl
def tabTs : List TypeId := [3, 4, 5, 9, 22, 23, 24, 25, 28, 37, 38, 39, 41, 58, 60, 70, 74, 81, 84, 86, 88, 99, 101, 107, 109, 123, 125, 127, 129, 137, 139, 141, 142, 157, 161, 162, 164, 166, 175, 178, 183, 185, 187, 191, 208, 215, 226, 229, 231, 233, 259, 274]
theorem tabOk3 : tokB Try.prog 3 ti3 = true := by kernel_rfl
theorem tabOk4 : tokB Try.prog 4 ti4 = true := by kernel_rfl
theorem tabOk5 : tokB Try.prog 5 ti5 = true := by kernel_rfl
theorem tabOk9 : tokB Try.prog 9 ti9 = true := by kernel_rfl
theorem tabOk22 : tokB Try.prog 22 ti22 = true := by kernel_rfl
theorem tabOk23 : tokB Try.prog 23 ti23 = true := by kernel_rfl
theorem tabOk24 : tokB Try.prog 24 ti24 = true := by kernel_rfl
theorem tabOk25 : tokB Try.prog 25 ti25 = true := by kernel_rfl
theorem tabOk28 : tokB Try.prog 28 ti28 = true := by kernel_rfl
theorem tabOk37 : tokB Try.prog 37 ti37 = true := by kernel_rfl
theorem tabOk38 : tokB Try.prog 38 ti38 = true := by kernel_rfl
theorem tabOk39 : tokB Try.prog 39 ti39 = true := by kernel_rfl
theorem tabOk41 : tokB Try.prog 41 ti41 = true := by kernel_rfl
theorem tabOk58 : tokB Try.prog 58 ti58 = true := by kernel_rfl
theorem tabOk60 : tokB Try.prog 60 ti60 = true := by kernel_rfl
theorem tabOk70 : tokB Try.prog 70 ti70 = true := by kernel_rfl
theorem tabOk74 : tokB Try.prog 74 ti74 = true := by kernel_rfl
theorem tabOk81 : tokB Try.prog 81 ti81 = true := by kernel_rfl
theorem tabOk84 : tokB Try.prog 84 ti84 = true := by kernel_rfl
theorem tabOk86 : tokB Try.prog 86 ti86 = true := by kernel_rfl
theorem tabOk88 : tokB Try.prog 88 ti88 = true := by kernel_rfl
theorem tabOk99 : tokB Try.prog 99 ti99 = true := by kernel_rfl
theorem tabOk101 : tokB Try.prog 101 ti101 = true := by kernel_rfl
theorem tabOk107 : tokB Try.prog 107 ti107 = true := by kernel_rfl
theorem tabOk109 : tokB Try.prog 109 ti109 = true := by kernel_rfl
theorem tabOk123 : tokB Try.prog 123 ti123 = true := by kernel_rfl
theorem tabOk125 : tokB Try.prog 125 ti125 = true := by kernel_rfl
theorem tabOk127 : tokB Try.prog 127 ti127 = true := by kernel_rfl
theorem tabOk129 : tokB Try.prog 129 ti129 = true := by kernel_rfl
theorem tabOk137 : tokB Try.prog 137 ti137 = true := by kernel_rfl
theorem tabOk139 : tokB Try.prog 139 ti139 = true := by kernel_rfl
theorem tabOk141 : tokB Try.prog 141 ti141 = true := by kernel_rfl
theorem tabOk142 : tokB Try.prog 142 ti142 = true := by kernel_rfl
theorem tabOk157 : tokB Try.prog 157 ti157 = true := by kernel_rfl
theorem tabOk161 : tokB Try.prog 161 ti161 = true := by kernel_rfl
theorem tabOk162 : tokB Try.prog 162 ti162 = true := by kernel_rfl
theorem tabOk164 : tokB Try.prog 164 ti164 = true := by kernel_rfl
theorem tabOk166 : tokB Try.prog 166 ti166 = true := by kernel_rfl
theorem tabOk175 : tokB Try.prog 175 ti175 = true := by kernel_rfl
theorem tabOk178 : tokB Try.prog 178 ti178 = true := by kernel_rfl
theorem tabOk183 : tokB Try.prog 183 ti183 = true := by kernel_rfl
theorem tabOk185 : tokB Try.prog 185 ti185 = true := by kernel_rfl
theorem tabOk187 : tokB Try.prog 187 ti187 = true := by kernel_rfl
theorem tabOk191 : tokB Try.prog 191 ti191 = true := by kernel_rfl
theorem tabOk208 : tokB Try.prog 208 ti208 = true := by kernel_rfl
theorem tabOk215 : tokB Try.prog 215 ti215 = true := by kernel_rfl
theorem tabOk226 : tokB Try.prog 226 ti226 = true := by kernel_rfl
theorem tabOk229 : tokB Try.prog 229 ti229 = true := by kernel_rfl
theorem tabOk231 : tokB Try.prog 231 ti231 = true := by kernel_rfl
theorem tabOk233 : tokB Try.prog 233 ti233 = true := by kernel_rfl
theorem tabOk259 : tokB Try.prog 259 ti259 = true := by kernel_rfl
theorem tabOk274 : tokB Try.prog 274 ti274 = true := by kernel_rfl
theorem tabOk : TabOk Try.prog tab := by
  intro t i h
  unfold tab at h
  split at h
  · cases h; exact tok_of tabOk3
  · cases h; exact tok_of tabOk4
  · cases h; exact tok_of tabOk5
  · cases h; exact tok_of tabOk9
  · cases h; exact tok_of tabOk22
  · cases h; exact tok_of tabOk23
  · cases h; exact tok_of tabOk24
  · cases h; exact tok_of tabOk25
  · cases h; exact tok_of tabOk28
  · cases h; exact tok_of tabOk37
  · cases h; exact tok_of tabOk38
  · cases h; exact tok_of tabOk39
  · cases h; exact tok_of tabOk41
  · cases h; exact tok_of tabOk58
  · cases h; exact tok_of tabOk60
  · cases h; exact tok_of tabOk70
  · cases h; exact tok_of tabOk74
  · cases h; exact tok_of tabOk81
  · cases h; exact tok_of tabOk84
  · cases h; exact tok_of tabOk86
  · cases h; exact tok_of tabOk88
  · cases h; exact tok_of tabOk99
  · cases h; exact tok_of tabOk101
  · cases h; exact tok_of tabOk107
  · cases h; exact tok_of tabOk109
  · cases h; exact tok_of tabOk123
  · cases h; exact tok_of tabOk125
  · cases h; exact tok_of tabOk127
  · cases h; exact tok_of tabOk129
  · cases h; exact tok_of tabOk137
  · cases h; exact tok_of tabOk139
  · cases h; exact tok_of tabOk141
  · cases h; exact tok_of tabOk142
  · cases h; exact tok_of tabOk157
  · cases h; exact tok_of tabOk161
  · cases h; exact tok_of tabOk162
  · cases h; exact tok_of tabOk164
  · cases h; exact tok_of tabOk166
  · cases h; exact tok_of tabOk175
  · cases h; exact tok_of tabOk178
  · cases h; exact tok_of tabOk183
  · cases h; exact tok_of tabOk185
  · cases h; exact tok_of tabOk187
  · cases h; exact tok_of tabOk191
  · cases h; exact tok_of tabOk208
  · cases h; exact tok_of tabOk215
  · cases h; exact tok_of tabOk226
  · cases h; exact tok_of tabOk229
  · cases h; exact tok_of tabOk231
  · cases h; exact tok_of tabOk233
  · cases h; exact tok_of tabOk259
  · cases h; exact tok_of tabOk274
  · cases h
end Go.Proofs.Ytdeockoaalpcjaa
