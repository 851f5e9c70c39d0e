/- The types of the program's operations, as a table, asked of the loaded program by computation. No condition. -/
import Derived.Test.YtjjhogleiolngaaFn
import Derived.Test.YtjjhogleiolngaaProg
import Derived.KernelRfl
namespace Go.Proofs.Ytjjhogleiolngaa
open Go.RowKit
def ti3 : TI := ⟨.int .i64, 1, 8, (.sc (.int .i64 0)), none⟩
def ti4 : TI := ⟨.bool, 1, 1, (.sc (.bool false)), none⟩
def ti5 : TI := ⟨.int .u8, 1, 1, (.sc (.int .u8 0)), none⟩
def ti9 : TI := ⟨.str, 1, 16, (.sc (.str ⟨#[]⟩)), none⟩
def ti22 : TI := ⟨.arr 6 3, 6, 48, .agg [.int .i64 0, .int .i64 0, .int .i64 0, .int .i64 0, .int .i64 0, .int .i64 0], some [.int .i64, .int .i64, .int .i64, .int .i64, .int .i64, .int .i64]⟩
def ti23 : TI := ⟨.arr 6 3, 6, 48, .agg [.int .i64 0, .int .i64 0, .int .i64 0, .int .i64 0, .int .i64 0, .int .i64 0], some [.int .i64, .int .i64, .int .i64, .int .i64, .int .i64, .int .i64]⟩
def ti24 : TI := ⟨.slice 135, 1, 24, .sc .nils, none⟩
def ti28 : TI := ⟨.slice 23, 1, 24, .sc .nils, none⟩
def ti29 : TI := ⟨.int .i64, 1, 8, (.sc (.int .i64 0)), none⟩
def ti36 : TI := ⟨.slice 62, 1, 24, .sc .nils, none⟩
def ti38 : TI := ⟨.struct [(0, 3), (1, 36)], 2, 32, .agg [.int .i64 0, .nils], none⟩
def ti40 : TI := ⟨.slice 44, 1, 24, .sc .nils, none⟩
def ti44 : TI := ⟨.int .u16, 1, 2, (.sc (.int .u16 0)), none⟩
def ti47 : TI := ⟨.slice 3, 1, 24, .sc .nils, none⟩
def ti62 : TI := ⟨.struct [(0, 3), (1, 3)], 2, 16, .agg [.int .i64 0, .int .i64 0], some [.int .i64, .int .i64]⟩
def ti80 : TI := ⟨.slice 82, 1, 24, .sc .nils, none⟩
def ti82 : TI := ⟨.slice 4, 1, 24, .sc .nils, none⟩
def ti85 : TI := ⟨.slice 98, 1, 24, .sc .nils, none⟩
def ti86 : TI := ⟨.slice 164, 1, 24, .sc .nils, none⟩
def ti88 : TI := ⟨.struct [(0, 85), (1, 86)], 2, 48, .agg [.nils, .nils], none⟩
def ti98 : TI := ⟨.struct [(0, 4), (1, 3), (2, 3)], 3, 24, .agg [.bool false, .int .i64 0, .int .i64 0], some [.bool, .int .i64, .int .i64]⟩
def ti101 : TI := ⟨.slice 47, 1, 24, .sc .nils, none⟩
def ti103 : TI := ⟨.struct [(0, 3), (1, 3), (2, 101), (3, 47), (4, 47)], 5, 88, .agg [.int .i64 0, .int .i64 0, .nils, .nils, .nils], none⟩
def ti105 : TI := ⟨.struct [(0, 3), (1, 3), (2, 3)], 3, 24, .agg [.int .i64 0, .int .i64 0, .int .i64 0], some [.int .i64, .int .i64, .int .i64]⟩
def ti112 : TI := ⟨.struct [(0, 3), (1, 5)], 2, 16, .agg [.int .i64 0, .int .u8 0], some [.int .i64, .int .u8]⟩
def ti113 : TI := ⟨.arr 6 47, 6, 144, .agg [.nils, .nils, .nils, .nils, .nils, .nils], none⟩
def ti115 : TI := ⟨.struct [(0, 112), (2, 5), (3, 113)], 9, 168, .agg [.int .i64 0, .int .u8 0, .int .u8 0, .nils, .nils, .nils, .nils, .nils, .nils], none⟩
def ti132 : TI := ⟨.arr 6 23, 36, 288, .agg (fnC 36 fun _ => 0), some [.int .i64, .int .i64, .int .i64, .int .i64, .int .i64, .int .i64, .int .i64, .int .i64, .int .i64, .int .i64, .int .i64, .int .i64, .int .i64, .int .i64, .int .i64, .int .i64, .int .i64, .int .i64, .int .i64, .int .i64, .int .i64, .int .i64, .int .i64, .int .i64, .int .i64, .int .i64, .int .i64, .int .i64, .int .i64, .int .i64, .int .i64, .int .i64, .int .i64, .int .i64, .int .i64, .int .i64]⟩
def ti133 : TI := ⟨.arr 30 23, 180, 1440, .agg (fnC 180 fun _ => 0), some [.int .i64, .int .i64, .int .i64, .int .i64, .int .i64, .int .i64, .int .i64, .int .i64, .int .i64, .int .i64, .int .i64, .int .i64, .int .i64, .int .i64, .int .i64, .int .i64, .int .i64, .int .i64, .int .i64, .int .i64, .int .i64, .int .i64, .int .i64, .int .i64, .int .i64, .int .i64, .int .i64, .int .i64, .int .i64, .int .i64, .int .i64, .int .i64, .int .i64, .int .i64, .int .i64, .int .i64, .int .i64, .int .i64, .int .i64, .int .i64, .int .i64, .int .i64, .int .i64, .int .i64, .int .i64, .int .i64, .int .i64, .int .i64, .int .i64, .int .i64, .int .i64, .int .i64, .int .i64, .int .i64, .int .i64, .int .i64, .int .i64, .int .i64, .int .i64, .int .i64, .int .i64, .int .i64, .int .i64, .int .i64, .int .i64, .int .i64, .int .i64, .int .i64, .int .i64, .int .i64, .int .i64, .int .i64, .int .i64, .int .i64, .int .i64, .int .i64, .int .i64, .int .i64, .int .i64, .int .i64, .int .i64, .int .i64, .int .i64, .int .i64, .int .i64, .int .i64, .int .i64, .int .i64, .int .i64, .int .i64, .int .i64, .int .i64, .int .i64, .int .i64, .int .i64, .int .i64, .int .i64, .int .i64, .int .i64, .int .i64, .int .i64, .int .i64, .int .i64, .int .i64, .int .i64, .int .i64, .int .i64, .int .i64, .int .i64, .int .i64, .int .i64, .int .i64, .int .i64, .int .i64, .int .i64, .int .i64, .int .i64, .int .i64, .int .i64, .int .i64, .int .i64, .int .i64, .int .i64, .int .i64, .int .i64, .int .i64, .int .i64, .int .i64, .int .i64, .int .i64, .int .i64, .int .i64, .int .i64, .int .i64, .int .i64, .int .i64, .int .i64, .int .i64, .int .i64, .int .i64, .int .i64, .int .i64, .int .i64, .int .i64, .int .i64, .int .i64, .int .i64, .int .i64, .int .i64, .int .i64, .int .i64, .int .i64, .int .i64, .int .i64, .int .i64, .int .i64, .int .i64, .int .i64, .int .i64, .int .i64, .int .i64, .int .i64, .int .i64, .int .i64, .int .i64, .int .i64, .int .i64, .int .i64, .int .i64, .int .i64, .int .i64, .int .i64, .int .i64, .int .i64, .int .i64, .int .i64, .int .i64, .int .i64, .int .i64, .int .i64]⟩
def ti135 : TI := ⟨.struct [(0, 3), (1, 3), (2, 3)], 3, 24, .agg [.int .i64 0, .int .i64 0, .int .i64 0], some [.int .i64, .int .i64, .int .i64]⟩
def ti140 : TI := ⟨.arr 12 44, 12, 24, .agg [.int .u16 0, .int .u16 0, .int .u16 0, .int .u16 0, .int .u16 0, .int .u16 0, .int .u16 0, .int .u16 0, .int .u16 0, .int .u16 0, .int .u16 0, .int .u16 0], some [.int .u16, .int .u16, .int .u16, .int .u16, .int .u16, .int .u16, .int .u16, .int .u16, .int .u16, .int .u16, .int .u16, .int .u16]⟩
def ti144 : TI := ⟨.map 44 3, 1, 8, .sc .nilm, none⟩
def ti145 : TI := ⟨.int .u64, 1, 8, (.sc (.int .u64 0)), none⟩
def ti147 : TI := ⟨.func, 1, 8, .sc .nilf, none⟩
def ti149 : TI := ⟨.arr 6 28, 6, 144, .agg [.nils, .nils, .nils, .nils, .nils, .nils], none⟩
def ti154 : TI := ⟨.arr 30 3, 30, 240, .agg (fnC 30 fun _ => 0), some [.int .i64, .int .i64, .int .i64, .int .i64, .int .i64, .int .i64, .int .i64, .int .i64, .int .i64, .int .i64, .int .i64, .int .i64, .int .i64, .int .i64, .int .i64, .int .i64, .int .i64, .int .i64, .int .i64, .int .i64, .int .i64, .int .i64, .int .i64, .int .i64, .int .i64, .int .i64, .int .i64, .int .i64, .int .i64, .int .i64]⟩
def ti159 : TI := ⟨.arr 6 4, 6, 6, .agg [.bool false, .bool false, .bool false, .bool false, .bool false, .bool false], some [.bool, .bool, .bool, .bool, .bool, .bool]⟩
def ti160 : TI := ⟨.arr 30 159, 180, 180, .agg (fnB 180 fun _ => false), some [.bool, .bool, .bool, .bool, .bool, .bool, .bool, .bool, .bool, .bool, .bool, .bool, .bool, .bool, .bool, .bool, .bool, .bool, .bool, .bool, .bool, .bool, .bool, .bool, .bool, .bool, .bool, .bool, .bool, .bool, .bool, .bool, .bool, .bool, .bool, .bool, .bool, .bool, .bool, .bool, .bool, .bool, .bool, .bool, .bool, .bool, .bool, .bool, .bool, .bool, .bool, .bool, .bool, .bool, .bool, .bool, .bool, .bool, .bool, .bool, .bool, .bool, .bool, .bool, .bool, .bool, .bool, .bool, .bool, .bool, .bool, .bool, .bool, .bool, .bool, .bool, .bool, .bool, .bool, .bool, .bool, .bool, .bool, .bool, .bool, .bool, .bool, .bool, .bool, .bool, .bool, .bool, .bool, .bool, .bool, .bool, .bool, .bool, .bool, .bool, .bool, .bool, .bool, .bool, .bool, .bool, .bool, .bool, .bool, .bool, .bool, .bool, .bool, .bool, .bool, .bool, .bool, .bool, .bool, .bool, .bool, .bool, .bool, .bool, .bool, .bool, .bool, .bool, .bool, .bool, .bool, .bool, .bool, .bool, .bool, .bool, .bool, .bool, .bool, .bool, .bool, .bool, .bool, .bool, .bool, .bool, .bool, .bool, .bool, .bool, .bool, .bool, .bool, .bool, .bool, .bool, .bool, .bool, .bool, .bool, .bool, .bool, .bool, .bool, .bool, .bool, .bool, .bool, .bool, .bool, .bool, .bool, .bool, .bool, .bool, .bool, .bool, .bool, .bool, .bool]⟩
def ti164 : TI := ⟨.struct [(0, 3), (1, 3), (2, 3)], 3, 24, .agg [.int .i64 0, .int .i64 0, .int .i64 0], some [.int .i64, .int .i64, .int .i64]⟩
def ti184 : TI := ⟨.arr 30 4, 30, 30, .agg (fnB 30 fun _ => false), some [.bool, .bool, .bool, .bool, .bool, .bool, .bool, .bool, .bool, .bool, .bool, .bool, .bool, .bool, .bool, .bool, .bool, .bool, .bool, .bool, .bool, .bool, .bool, .bool, .bool, .bool, .bool, .bool, .bool, .bool]⟩
def ti195 : TI := ⟨.int .u32, 1, 4, (.sc (.int .u32 0)), none⟩
def ti198 : TI := ⟨.int .u64, 1, 8, (.sc (.int .u64 0)), none⟩
def ti201 : TI := ⟨.slice 86, 1, 24, .sc .nils, none⟩
def ti205 : TI := ⟨.arr 20 4, 20, 20, .agg (fnB 20 fun _ => false), some [.bool, .bool, .bool, .bool, .bool, .bool, .bool, .bool, .bool, .bool, .bool, .bool, .bool, .bool, .bool, .bool, .bool, .bool, .bool, .bool]⟩
def ti207 : TI := ⟨.arr 20 205, 400, 400, .agg (fnB 400 fun _ => false), some [.bool, .bool, .bool, .bool, .bool, .bool, .bool, .bool, .bool, .bool, .bool, .bool, .bool, .bool, .bool, .bool, .bool, .bool, .bool, .bool, .bool, .bool, .bool, .bool, .bool, .bool, .bool, .bool, .bool, .bool, .bool, .bool, .bool, .bool, .bool, .bool, .bool, .bool, .bool, .bool, .bool, .bool, .bool, .bool, .bool, .bool, .bool, .bool, .bool, .bool, .bool, .bool, .bool, .bool, .bool, .bool, .bool, .bool, .bool, .bool, .bool, .bool, .bool, .bool, .bool, .bool, .bool, .bool, .bool, .bool, .bool, .bool, .bool, .bool, .bool, .bool, .bool, .bool, .bool, .bool, .bool, .bool, .bool, .bool, .bool, .bool, .bool, .bool, .bool, .bool, .bool, .bool, .bool, .bool, .bool, .bool, .bool, .bool, .bool, .bool, .bool, .bool, .bool, .bool, .bool, .bool, .bool, .bool, .bool, .bool, .bool, .bool, .bool, .bool, .bool, .bool, .bool, .bool, .bool, .bool, .bool, .bool, .bool, .bool, .bool, .bool, .bool, .bool, .bool, .bool, .bool, .bool, .bool, .bool, .bool, .bool, .bool, .bool, .bool, .bool, .bool, .bool, .bool, .bool, .bool, .bool, .bool, .bool, .bool, .bool, .bool, .bool, .bool, .bool, .bool, .bool, .bool, .bool, .bool, .bool, .bool, .bool, .bool, .bool, .bool, .bool, .bool, .bool, .bool, .bool, .bool, .bool, .bool, .bool, .bool, .bool, .bool, .bool, .bool, .bool, .bool, .bool, .bool, .bool, .bool, .bool, .bool, .bool, .bool, .bool, .bool, .bool, .bool, .bool, .bool, .bool, .bool, .bool, .bool, .bool, .bool, .bool, .bool, .bool, .bool, .bool, .bool, .bool, .bool, .bool, .bool, .bool, .bool, .bool, .bool, .bool, .bool, .bool, .bool, .bool, .bool, .bool, .bool, .bool, .bool, .bool, .bool, .bool, .bool, .bool, .bool, .bool, .bool, .bool, .bool, .bool, .bool, .bool, .bool, .bool, .bool, .bool, .bool, .bool, .bool, .bool, .bool, .bool, .bool, .bool, .bool, .bool, .bool, .bool, .bool, .bool, .bool, .bool, .bool, .bool, .bool, .bool, .bool, .bool, .bool, .bool, .bool, .bool, .bool, .bool, .bool, .bool, .bool, .bool, .bool, .bool, .bool, .bool, .bool, .bool, .bool, .bool, .bool, .bool, .bool, .bool, .bool, .bool, .bool, .bool, .bool, .bool, .bool, .bool, .bool, .bool, .bool, .bool, .bool, .bool, .bool, .bool, .bool, .bool, .bool, .bool, .bool, .bool, .bool, .bool, .bool, .bool, .bool, .bool, .bool, .bool, .bool, .bool, .bool, .bool, .bool, .bool, .bool, .bool, .bool, .bool, .bool, .bool, .bool, .bool, .bool, .bool, .bool, .bool, .bool, .bool, .bool, .bool, .bool, .bool, .bool, .bool, .bool, .bool, .bool, .bool, .bool, .bool, .bool, .bool, .bool, .bool, .bool, .bool, .bool, .bool, .bool, .bool, .bool, .bool, .bool, .bool, .bool, .bool, .bool, .bool, .bool, .bool, .bool, .bool, .bool, .bool, .bool, .bool, .bool, .bool, .bool, .bool, .bool, .bool, .bool, .bool, .bool, .bool, .bool, .bool, .bool, .bool, .bool, .bool, .bool, .bool, .bool, .bool, .bool, .bool, .bool, .bool, .bool, .bool]⟩
def ti209 : TI := ⟨.int .i64, 1, 8, (.sc (.int .i64 0)), none⟩
def ti217 : TI := ⟨.int .u64, 1, 8, (.sc (.int .u64 0)), none⟩
def tab (t : TypeId) : Option TI :=
  match t with
  | 3 => some ti3
  | 4 => some ti4
  | 5 => some ti5
  | 9 => some ti9
  | 22 => some ti22
  | 23 => some ti23
  | 24 => some ti24
  | 28 => some ti28
  | 29 => some ti29
  | 36 => some ti36
  | 38 => some ti38
  | 40 => some ti40
  | 44 => some ti44
  | 47 => some ti47
  | 62 => some ti62
  | 80 => some ti80
  | 82 => some ti82
  | 85 => some ti85
  | 86 => some ti86
  | 88 => some ti88
  | 98 => some ti98
  | 101 => some ti101
  | 103 => some ti103
  | 105 => some ti105
  | 112 => some ti112
  | 113 => some ti113
  | 115 => some ti115
  | 132 => some ti132
  | 133 => some ti133
  | 135 => some ti135
  | 140 => some ti140
  | 144 => some ti144
  | 145 => some ti145
  | 147 => some ti147
  | 149 => some ti149
  | 154 => some ti154
  | 159 => some ti159
  | 160 => some ti160
  | 164 => some ti164
  | 184 => some ti184
  | 195 => some ti195
  | 198 => some ti198
  | 201 => some ti201
  | 205 => some ti205
  | 207 => some ti207
  | 209 => some ti209
  | 217 => some ti217
  | _ => none
theorem tab3 : tab 3 = some ⟨.int .i64, 1, 8, (.sc (.int .i64 0)), none⟩ := rfl
theorem tab4 : tab 4 = some ⟨.bool, 1, 1, (.sc (.bool false)), none⟩ := rfl
theorem tab5 : tab 5 = some ⟨.int .u8, 1, 1, (.sc (.int .u8 0)), none⟩ := rfl
theorem tab9 : tab 9 = some ⟨.str, 1, 16, (.sc (.str ⟨#[]⟩)), none⟩ := rfl
theorem tab22 : tab 22 = some ⟨.arr 6 3, 6, 48, .agg [.int .i64 0, .int .i64 0, .int .i64 0, .int .i64 0, .int .i64 0, .int .i64 0], some [.int .i64, .int .i64, .int .i64, .int .i64, .int .i64, .int .i64]⟩ := rfl
theorem tab23 : tab 23 = some ⟨.arr 6 3, 6, 48, .agg [.int .i64 0, .int .i64 0, .int .i64 0, .int .i64 0, .int .i64 0, .int .i64 0], some [.int .i64, .int .i64, .int .i64, .int .i64, .int .i64, .int .i64]⟩ := rfl
theorem tab24 : tab 24 = some ⟨.slice 135, 1, 24, .sc .nils, none⟩ := rfl
theorem tab28 : tab 28 = some ⟨.slice 23, 1, 24, .sc .nils, none⟩ := rfl
theorem tab29 : tab 29 = some ⟨.int .i64, 1, 8, (.sc (.int .i64 0)), none⟩ := rfl
theorem tab36 : tab 36 = some ⟨.slice 62, 1, 24, .sc .nils, none⟩ := rfl
theorem tab38 : tab 38 = some ⟨.struct [(0, 3), (1, 36)], 2, 32, .agg [.int .i64 0, .nils], none⟩ := rfl
theorem tab40 : tab 40 = some ⟨.slice 44, 1, 24, .sc .nils, none⟩ := rfl
theorem tab44 : tab 44 = some ⟨.int .u16, 1, 2, (.sc (.int .u16 0)), none⟩ := rfl
theorem tab47 : tab 47 = some ⟨.slice 3, 1, 24, .sc .nils, none⟩ := rfl
theorem tab62 : tab 62 = some ⟨.struct [(0, 3), (1, 3)], 2, 16, .agg [.int .i64 0, .int .i64 0], some [.int .i64, .int .i64]⟩ := rfl
theorem tab80 : tab 80 = some ⟨.slice 82, 1, 24, .sc .nils, none⟩ := rfl
theorem tab82 : tab 82 = some ⟨.slice 4, 1, 24, .sc .nils, none⟩ := rfl
theorem tab85 : tab 85 = some ⟨.slice 98, 1, 24, .sc .nils, none⟩ := rfl
theorem tab86 : tab 86 = some ⟨.slice 164, 1, 24, .sc .nils, none⟩ := rfl
theorem tab88 : tab 88 = some ⟨.struct [(0, 85), (1, 86)], 2, 48, .agg [.nils, .nils], none⟩ := rfl
theorem tab98 : tab 98 = some ⟨.struct [(0, 4), (1, 3), (2, 3)], 3, 24, .agg [.bool false, .int .i64 0, .int .i64 0], some [.bool, .int .i64, .int .i64]⟩ := rfl
theorem tab101 : tab 101 = some ⟨.slice 47, 1, 24, .sc .nils, none⟩ := rfl
theorem tab103 : tab 103 = some ⟨.struct [(0, 3), (1, 3), (2, 101), (3, 47), (4, 47)], 5, 88, .agg [.int .i64 0, .int .i64 0, .nils, .nils, .nils], none⟩ := rfl
theorem tab105 : tab 105 = some ⟨.struct [(0, 3), (1, 3), (2, 3)], 3, 24, .agg [.int .i64 0, .int .i64 0, .int .i64 0], some [.int .i64, .int .i64, .int .i64]⟩ := rfl
theorem tab112 : tab 112 = some ⟨.struct [(0, 3), (1, 5)], 2, 16, .agg [.int .i64 0, .int .u8 0], some [.int .i64, .int .u8]⟩ := rfl
theorem tab113 : tab 113 = some ⟨.arr 6 47, 6, 144, .agg [.nils, .nils, .nils, .nils, .nils, .nils], none⟩ := rfl
theorem tab115 : tab 115 = some ⟨.struct [(0, 112), (2, 5), (3, 113)], 9, 168, .agg [.int .i64 0, .int .u8 0, .int .u8 0, .nils, .nils, .nils, .nils, .nils, .nils], none⟩ := rfl
theorem tab132 : tab 132 = some ⟨.arr 6 23, 36, 288, .agg (fnC 36 fun _ => 0), some [.int .i64, .int .i64, .int .i64, .int .i64, .int .i64, .int .i64, .int .i64, .int .i64, .int .i64, .int .i64, .int .i64, .int .i64, .int .i64, .int .i64, .int .i64, .int .i64, .int .i64, .int .i64, .int .i64, .int .i64, .int .i64, .int .i64, .int .i64, .int .i64, .int .i64, .int .i64, .int .i64, .int .i64, .int .i64, .int .i64, .int .i64, .int .i64, .int .i64, .int .i64, .int .i64, .int .i64]⟩ := rfl
theorem tab133 : tab 133 = some ⟨.arr 30 23, 180, 1440, .agg (fnC 180 fun _ => 0), some [.int .i64, .int .i64, .int .i64, .int .i64, .int .i64, .int .i64, .int .i64, .int .i64, .int .i64, .int .i64, .int .i64, .int .i64, .int .i64, .int .i64, .int .i64, .int .i64, .int .i64, .int .i64, .int .i64, .int .i64, .int .i64, .int .i64, .int .i64, .int .i64, .int .i64, .int .i64, .int .i64, .int .i64, .int .i64, .int .i64, .int .i64, .int .i64, .int .i64, .int .i64, .int .i64, .int .i64, .int .i64, .int .i64, .int .i64, .int .i64, .int .i64, .int .i64, .int .i64, .int .i64, .int .i64, .int .i64, .int .i64, .int .i64, .int .i64, .int .i64, .int .i64, .int .i64, .int .i64, .int .i64, .int .i64, .int .i64, .int .i64, .int .i64, .int .i64, .int .i64, .int .i64, .int .i64, .int .i64, .int .i64, .int .i64, .int .i64, .int .i64, .int .i64, .int .i64, .int .i64, .int .i64, .int .i64, .int .i64, .int .i64, .int .i64, .int .i64, .int .i64, .int .i64, .int .i64, .int .i64, .int .i64, .int .i64, .int .i64, .int .i64, .int .i64, .int .i64, .int .i64, .int .i64, .int .i64, .int .i64, .int .i64, .int .i64, .int .i64, .int .i64, .int .i64, .int .i64, .int .i64, .int .i64, .int .i64, .int .i64, .int .i64, .int .i64, .int .i64, .int .i64, .int .i64, .int .i64, .int .i64, .int .i64, .int .i64, .int .i64, .int .i64, .int .i64, .int .i64, .int .i64, .int .i64, .int .i64, .int .i64, .int .i64, .int .i64, .int .i64, .int .i64, .int .i64, .int .i64, .int .i64, .int .i64, .int .i64, .int .i64, .int .i64, .int .i64, .int .i64, .int .i64, .int .i64, .int .i64, .int .i64, .int .i64, .int .i64, .int .i64, .int .i64, .int .i64, .int .i64, .int .i64, .int .i64, .int .i64, .int .i64, .int .i64, .int .i64, .int .i64, .int .i64, .int .i64, .int .i64, .int .i64, .int .i64, .int .i64, .int .i64, .int .i64, .int .i64, .int .i64, .int .i64, .int .i64, .int .i64, .int .i64, .int .i64, .int .i64, .int .i64, .int .i64, .int .i64, .int .i64, .int .i64, .int .i64, .int .i64, .int .i64, .int .i64, .int .i64, .int .i64, .int .i64, .int .i64, .int .i64, .int .i64, .int .i64, .int .i64]⟩ := rfl
theorem tab135 : tab 135 = some ⟨.struct [(0, 3), (1, 3), (2, 3)], 3, 24, .agg [.int .i64 0, .int .i64 0, .int .i64 0], some [.int .i64, .int .i64, .int .i64]⟩ := rfl
theorem tab140 : tab 140 = some ⟨.arr 12 44, 12, 24, .agg [.int .u16 0, .int .u16 0, .int .u16 0, .int .u16 0, .int .u16 0, .int .u16 0, .int .u16 0, .int .u16 0, .int .u16 0, .int .u16 0, .int .u16 0, .int .u16 0], some [.int .u16, .int .u16, .int .u16, .int .u16, .int .u16, .int .u16, .int .u16, .int .u16, .int .u16, .int .u16, .int .u16, .int .u16]⟩ := rfl
theorem tab144 : tab 144 = some ⟨.map 44 3, 1, 8, .sc .nilm, none⟩ := rfl
theorem tab145 : tab 145 = some ⟨.int .u64, 1, 8, (.sc (.int .u64 0)), none⟩ := rfl
theorem tab147 : tab 147 = some ⟨.func, 1, 8, .sc .nilf, none⟩ := rfl
theorem tab149 : tab 149 = some ⟨.arr 6 28, 6, 144, .agg [.nils, .nils, .nils, .nils, .nils, .nils], none⟩ := rfl
theorem tab154 : tab 154 = some ⟨.arr 30 3, 30, 240, .agg (fnC 30 fun _ => 0), some [.int .i64, .int .i64, .int .i64, .int .i64, .int .i64, .int .i64, .int .i64, .int .i64, .int .i64, .int .i64, .int .i64, .int .i64, .int .i64, .int .i64, .int .i64, .int .i64, .int .i64, .int .i64, .int .i64, .int .i64, .int .i64, .int .i64, .int .i64, .int .i64, .int .i64, .int .i64, .int .i64, .int .i64, .int .i64, .int .i64]⟩ := rfl
theorem tab159 : tab 159 = some ⟨.arr 6 4, 6, 6, .agg [.bool false, .bool false, .bool false, .bool false, .bool false, .bool false], some [.bool, .bool, .bool, .bool, .bool, .bool]⟩ := rfl
theorem tab160 : tab 160 = some ⟨.arr 30 159, 180, 180, .agg (fnB 180 fun _ => false), some [.bool, .bool, .bool, .bool, .bool, .bool, .bool, .bool, .bool, .bool, .bool, .bool, .bool, .bool, .bool, .bool, .bool, .bool, .bool, .bool, .bool, .bool, .bool, .bool, .bool, .bool, .bool, .bool, .bool, .bool, .bool, .bool, .bool, .bool, .bool, .bool, .bool, .bool, .bool, .bool, .bool, .bool, .bool, .bool, .bool, .bool, .bool, .bool, .bool, .bool, .bool, .bool, .bool, .bool, .bool, .bool, .bool, .bool, .bool, .bool, .bool, .bool, .bool, .bool, .bool, .bool, .bool, .bool, .bool, .bool, .bool, .bool, .bool, .bool, .bool, .bool, .bool, .bool, .bool, .bool, .bool, .bool, .bool, .bool, .bool, .bool, .bool, .bool, .bool, .bool, .bool, .bool, .bool, .bool, .bool, .bool, .bool, .bool, .bool, .bool, .bool, .bool, .bool, .bool, .bool, .bool, .bool, .bool, .bool, .bool, .bool, .bool, .bool, .bool, .bool, .bool, .bool, .bool, .bool, .bool, .bool, .bool, .bool, .bool, .bool, .bool, .bool, .bool, .bool, .bool, .bool, .bool, .bool, .bool, .bool, .bool, .bool, .bool, .bool, .bool, .bool, .bool, .bool, .bool, .bool, .bool, .bool, .bool, .bool, .bool, .bool, .bool, .bool, .bool, .bool, .bool, .bool, .bool, .bool, .bool, .bool, .bool, .bool, .bool, .bool, .bool, .bool, .bool, .bool, .bool, .bool, .bool, .bool, .bool, .bool, .bool, .bool, .bool, .bool, .bool]⟩ := rfl
theorem tab164 : tab 164 = some ⟨.struct [(0, 3), (1, 3), (2, 3)], 3, 24, .agg [.int .i64 0, .int .i64 0, .int .i64 0], some [.int .i64, .int .i64, .int .i64]⟩ := rfl
theorem tab184 : tab 184 = some ⟨.arr 30 4, 30, 30, .agg (fnB 30 fun _ => false), some [.bool, .bool, .bool, .bool, .bool, .bool, .bool, .bool, .bool, .bool, .bool, .bool, .bool, .bool, .bool, .bool, .bool, .bool, .bool, .bool, .bool, .bool, .bool, .bool, .bool, .bool, .bool, .bool, .bool, .bool]⟩ := rfl
theorem tab195 : tab 195 = some ⟨.int .u32, 1, 4, (.sc (.int .u32 0)), none⟩ := rfl
theorem tab198 : tab 198 = some ⟨.int .u64, 1, 8, (.sc (.int .u64 0)), none⟩ := rfl
theorem tab201 : tab 201 = some ⟨.slice 86, 1, 24, .sc .nils, none⟩ := rfl
theorem tab205 : tab 205 = some ⟨.arr 20 4, 20, 20, .agg (fnB 20 fun _ => false), some [.bool, .bool, .bool, .bool, .bool, .bool, .bool, .bool, .bool, .bool, .bool, .bool, .bool, .bool, .bool, .bool, .bool, .bool, .bool, .bool]⟩ := rfl
theorem tab207 : tab 207 = some ⟨.arr 20 205, 400, 400, .agg (fnB 400 fun _ => false), some [.bool, .bool, .bool, .bool, .bool, .bool, .bool, .bool, .bool, .bool, .bool, .bool, .bool, .bool, .bool, .bool, .bool, .bool, .bool, .bool, .bool, .bool, .bool, .bool, .bool, .bool, .bool, .bool, .bool, .bool, .bool, .bool, .bool, .bool, .bool, .bool, .bool, .bool, .bool, .bool, .bool, .bool, .bool, .bool, .bool, .bool, .bool, .bool, .bool, .bool, .bool, .bool, .bool, .bool, .bool, .bool, .bool, .bool, .bool, .bool, .bool, .bool, .bool, .bool, .bool, .bool, .bool, .bool, .bool, .bool, .bool, .bool, .bool, .bool, .bool, .bool, .bool, .bool, .bool, .bool, .bool, .bool, .bool, .bool, .bool, .bool, .bool, .bool, .bool, .bool, .bool, .bool, .bool, .bool, .bool, .bool, .bool, .bool, .bool, .bool, .bool, .bool, .bool, .bool, .bool, .bool, .bool, .bool, .bool, .bool, .bool, .bool, .bool, .bool, .bool, .bool, .bool, .bool, .bool, .bool, .bool, .bool, .bool, .bool, .bool, .bool, .bool, .bool, .bool, .bool, .bool, .bool, .bool, .bool, .bool, .bool, .bool, .bool, .bool, .bool, .bool, .bool, .bool, .bool, .bool, .bool, .bool, .bool, .bool, .bool, .bool, .bool, .bool, .bool, .bool, .bool, .bool, .bool, .bool, .bool, .bool, .bool, .bool, .bool, .bool, .bool, .bool, .bool, .bool, .bool, .bool, .bool, .bool, .bool, .bool, .bool, .bool, .bool, .bool, .bool, .bool, .bool, .bool, .bool, .bool, .bool, .bool, .bool, .bool, .bool, .bool, .bool, .bool, .bool, .bool, .bool, .bool, .bool, .bool, .bool, .bool, .bool, .bool, .bool, .bool, .bool, .bool, .bool, .bool, .bool, .bool, .bool, .bool, .bool, .bool, .bool, .bool, .bool, .bool, .bool, .bool, .bool, .bool, .bool, .bool, .bool, .bool, .bool, .bool, .bool, .bool, .bool, .bool, .bool, .bool, .bool, .bool, .bool, .bool, .bool, .bool, .bool, .bool, .bool, .bool, .bool, .bool, .bool, .bool, .bool, .bool, .bool, .bool, .bool, .bool, .bool, .bool, .bool, .bool, .bool, .bool, .bool, .bool, .bool, .bool, .bool, .bool, .bool, .bool, .bool, .bool, .bool, .bool, .bool, .bool, .bool, .bool, .bool, .bool, .bool, .bool, .bool, .bool, .bool, .bool, .bool, .bool, .bool, .bool, .bool, .bool, .bool, .bool, .bool, .bool, .bool, .bool, .bool, .bool, .bool, .bool, .bool, .bool, .bool, .bool, .bool, .bool, .bool, .bool, .bool, .bool, .bool, .bool, .bool, .bool, .bool, .bool, .bool, .bool, .bool, .bool, .bool, .bool, .bool, .bool, .bool, .bool, .bool, .bool, .bool, .bool, .bool, .bool, .bool, .bool, .bool, .bool, .bool, .bool, .bool, .bool, .bool, .bool, .bool, .bool, .bool, .bool, .bool, .bool, .bool, .bool, .bool, .bool, .bool, .bool, .bool, .bool, .bool, .bool, .bool, .bool, .bool, .bool, .bool, .bool, .bool, .bool, .bool, .bool, .bool, .bool, .bool, .bool, .bool, .bool, .bool, .bool, .bool, .bool, .bool, .bool, .bool, .bool, .bool, .bool, .bool, .bool, .bool, .bool, .bool, .bool, .bool, .bool, .bool, .bool, .bool, .bool, .bool, .bool, .bool]⟩ := rfl
theorem tab209 : tab 209 = some ⟨.int .i64, 1, 8, (.sc (.int .i64 0)), none⟩ := rfl
theorem tab217 : tab 217 = some ⟨.int .u64, 1, 8, (.sc (.int .u64 0)), none⟩ := rfl
def tabTs : List TypeId := [3, 4, 5, 9, 22, 23, 24, 28, 29, 36, 38, 40, 44, 47, 62, 80, 82, 85, 86, 88, 98, 101, 103, 105, 112, 113, 115, 132, 133, 135, 140, 144, 145, 147, 149, 154, 159, 160, 164, 184, 195, 198, 201, 205, 207, 209, 217]
theorem tabOk3 : tokB Try.prog 3 ti3 = true := by kernel_rfl
theorem tabOk4 : tokB Try.prog 4 ti4 = true := by kernel_rfl
theorem tabOk5 : tokB Try.prog 5 ti5 = true := by kernel_rfl
theorem tabOk9 : tokB Try.prog 9 ti9 = true := by kernel_rfl
theorem tabOk22 : tokB Try.prog 22 ti22 = true := by kernel_rfl
theorem tabOk23 : tokB Try.prog 23 ti23 = true := by kernel_rfl
theorem tabOk24 : tokB Try.prog 24 ti24 = true := by kernel_rfl
theorem tabOk28 : tokB Try.prog 28 ti28 = true := by kernel_rfl
theorem tabOk29 : tokB Try.prog 29 ti29 = true := by kernel_rfl
theorem tabOk36 : tokB Try.prog 36 ti36 = true := by kernel_rfl
theorem tabOk38 : tokB Try.prog 38 ti38 = true := by kernel_rfl
theorem tabOk40 : tokB Try.prog 40 ti40 = true := by kernel_rfl
theorem tabOk44 : tokB Try.prog 44 ti44 = true := by kernel_rfl
theorem tabOk47 : tokB Try.prog 47 ti47 = true := by kernel_rfl
theorem tabOk62 : tokB Try.prog 62 ti62 = true := by kernel_rfl
theorem tabOk80 : tokB Try.prog 80 ti80 = true := by kernel_rfl
theorem tabOk82 : tokB Try.prog 82 ti82 = true := by kernel_rfl
theorem tabOk85 : tokB Try.prog 85 ti85 = true := by kernel_rfl
theorem tabOk86 : tokB Try.prog 86 ti86 = true := by kernel_rfl
theorem tabOk88 : tokB Try.prog 88 ti88 = true := by kernel_rfl
theorem tabOk98 : tokB Try.prog 98 ti98 = true := by kernel_rfl
theorem tabOk101 : tokB Try.prog 101 ti101 = true := by kernel_rfl
theorem tabOk103 : tokB Try.prog 103 ti103 = true := by kernel_rfl
theorem tabOk105 : tokB Try.prog 105 ti105 = true := by kernel_rfl
theorem tabOk112 : tokB Try.prog 112 ti112 = true := by kernel_rfl
theorem tabOk113 : tokB Try.prog 113 ti113 = true := by kernel_rfl
theorem tabOk115 : tokB Try.prog 115 ti115 = true := by kernel_rfl
theorem tabOk132 : tokB Try.prog 132 ti132 = true := by kernel_rfl
theorem tabOk133 : tokB Try.prog 133 ti133 = true := by kernel_rfl
theorem tabOk135 : tokB Try.prog 135 ti135 = true := by kernel_rfl
theorem tabOk140 : tokB Try.prog 140 ti140 = true := by kernel_rfl
theorem tabOk144 : tokB Try.prog 144 ti144 = true := by kernel_rfl
theorem tabOk145 : tokB Try.prog 145 ti145 = true := by kernel_rfl
theorem tabOk147 : tokB Try.prog 147 ti147 = true := by kernel_rfl
theorem tabOk149 : tokB Try.prog 149 ti149 = true := by kernel_rfl
theorem tabOk154 : tokB Try.prog 154 ti154 = true := by kernel_rfl
theorem tabOk159 : tokB Try.prog 159 ti159 = true := by kernel_rfl
theorem tabOk160 : tokB Try.prog 160 ti160 = true := by kernel_rfl
theorem tabOk164 : tokB Try.prog 164 ti164 = true := by kernel_rfl
theorem tabOk184 : tokB Try.prog 184 ti184 = true := by kernel_rfl
theorem tabOk195 : tokB Try.prog 195 ti195 = true := by kernel_rfl
theorem tabOk198 : tokB Try.prog 198 ti198 = true := by kernel_rfl
theorem tabOk201 : tokB Try.prog 201 ti201 = true := by kernel_rfl
theorem tabOk205 : tokB Try.prog 205 ti205 = true := by kernel_rfl
theorem tabOk207 : tokB Try.prog 207 ti207 = true := by kernel_rfl
theorem tabOk209 : tokB Try.prog 209 ti209 = true := by kernel_rfl
theorem tabOk217 : tokB Try.prog 217 ti217 = true := by kernel_rfl
theorem tabOk : TabOk Try.prog tab := by
  intro t i h
  unfold tab at h
  split at h
  · cases h; exact tok_of tabOk3
  · cases h; exact tok_of tabOk4
  · cases h; exact tok_of tabOk5
  · cases h; exact tok_of tabOk9
  · cases h; exact tok_of tabOk22
  · cases h; exact tok_of tabOk23
  · cases h; exact tok_of tabOk24
  · cases h; exact tok_of tabOk28
  · cases h; exact tok_of tabOk29
  · cases h; exact tok_of tabOk36
  · cases h; exact tok_of tabOk38
  · cases h; exact tok_of tabOk40
  · cases h; exact tok_of tabOk44
  · cases h; exact tok_of tabOk47
  · cases h; exact tok_of tabOk62
  · cases h; exact tok_of tabOk80
  · cases h; exact tok_of tabOk82
  · cases h; exact tok_of tabOk85
  · cases h; exact tok_of tabOk86
  · cases h; exact tok_of tabOk88
  · cases h; exact tok_of tabOk98
  · cases h; exact tok_of tabOk101
  · cases h; exact tok_of tabOk103
  · cases h; exact tok_of tabOk105
  · cases h; exact tok_of tabOk112
  · cases h; exact tok_of tabOk113
  · cases h; exact tok_of tabOk115
  · cases h; exact tok_of tabOk132
  · cases h; exact tok_of tabOk133
  · cases h; exact tok_of tabOk135
  · cases h; exact tok_of tabOk140
  · cases h; exact tok_of tabOk144
  · cases h; exact tok_of tabOk145
  · cases h; exact tok_of tabOk147
  · cases h; exact tok_of tabOk149
  · cases h; exact tok_of tabOk154
  · cases h; exact tok_of tabOk159
  · cases h; exact tok_of tabOk160
  · cases h; exact tok_of tabOk164
  · cases h; exact tok_of tabOk184
  · cases h; exact tok_of tabOk195
  · cases h; exact tok_of tabOk198
  · cases h; exact tok_of tabOk201
  · cases h; exact tok_of tabOk205
  · cases h; exact tok_of tabOk207
  · cases h; exact tok_of tabOk209
  · cases h; exact tok_of tabOk217
  · cases h
end Go.Proofs.Ytjjhogleiolngaa
