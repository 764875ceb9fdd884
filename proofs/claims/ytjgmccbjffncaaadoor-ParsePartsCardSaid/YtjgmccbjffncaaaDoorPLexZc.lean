import Derived.Test.YtjgmccbjffncaaaDoorMiniYOtoYS
import Derived.Test.YtjgmccbjffncaaaDoorProg
namespace Go.Mini
open Go.Proofs Tryd
theorem lc3 (h : Heap) (i k : Nat) : aload prog h 3 (.pointer (some ⟨i, k, none⟩)) = h.ld i k := aload_cell (by kernel_rfl)
theorem lc9 (h : Heap) (i k : Nat) : aload prog h 9 (.pointer (some ⟨i, k, none⟩)) = h.ld i k := aload_cell (by kernel_rfl)
theorem lc22 (h : Heap) (i k : Nat) : aload prog h 22 (.pointer (some ⟨i, k, none⟩)) = h.ld i k := aload_cell (by kernel_rfl)
theorem lc29 (h : Heap) (i k : Nat) : aload prog h 29 (.pointer (some ⟨i, k, none⟩)) = h.ld i k := aload_cell (by kernel_rfl)
theorem lc40 (h : Heap) (i k : Nat) : aload prog h 40 (.pointer (some ⟨i, k, none⟩)) = h.ld i k := aload_cell (by kernel_rfl)
theorem lc47 (h : Heap) (i k : Nat) : aload prog h 47 (.pointer (some ⟨i, k, none⟩)) = h.ld i k := aload_cell (by kernel_rfl)
theorem lc56 (h : Heap) (i k : Nat) : aload prog h 56 (.pointer (some ⟨i, k, none⟩)) = h.ld i k := aload_cell (by kernel_rfl)
theorem lc73 (h : Heap) (i k : Nat) : aload prog h 73 (.pointer (some ⟨i, k, none⟩)) = h.ld i k := aload_cell (by kernel_rfl)
theorem lc74 (h : Heap) (i k : Nat) : aload prog h 74 (.pointer (some ⟨i, k, none⟩)) = h.ld i k := aload_cell (by kernel_rfl)
theorem lc103 (h : Heap) (i k : Nat) : aload prog h 103 (.pointer (some ⟨i, k, none⟩)) = h.ld i k := aload_cell (by kernel_rfl)
theorem ls9 (h : Heap) (s : ByteArray) : alen prog h 9 (.string s) = some (.int .i64 (s.size : Nat)) := alen_str underlying9 s
theorem lv38 (h : Heap) (a : Option Addr) (l c : Nat) : alen prog h 38 (.slice a l c) = some (.int .i64 (l : Nat)) := alen_slice underlying38 a l c
theorem lv74 (h : Heap) (a : Option Addr) (l c : Nat) : alen prog h 74 (.slice a l c) = some (.int .i64 (l : Nat)) := alen_slice underlying74 a l c
end Go.Mini
