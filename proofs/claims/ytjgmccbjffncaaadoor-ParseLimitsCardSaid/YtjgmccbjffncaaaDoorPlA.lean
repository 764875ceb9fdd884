/-
  PARSE, ParseLimits A: what the parser says of the law's texts. The kernel reckons it.
-/
import Derived.Test.YtjgmccbjffncaaaDoorPaO
set_option maxRecDepth 1000000
namespace Go.Mini

def repB (n : Nat) (l : List UInt8) : List UInt8 := match n with | 0 => [] | n + 1 => repB n l ++ l
def blkB : List UInt8 := [97, 58, 10, 101, 120, 105, 116, 32, 48, 10]
def incB : List UInt8 := [105, 110, 99, 32, 110, 10]
def armB : List UInt8 := [34, 120, 34, 32, 103, 111, 116, 111, 32, 97, 10]
def hdB : List UInt8 := [97, 58, 10]
def exB : List UInt8 := [97, 58, 10, 101, 120, 112, 101, 99, 116, 32, 123, 10]
def lt1 : List UInt8 := repB 32 blkB
def lt3 : List UInt8 := hdB ++ repB 127 incB
def lt5 : List UInt8 := exB ++ repB 8 armB
def spotP (R : Except (Nat × Nat) (List BlockT)) : Nat × Nat := match R with | .ok _ => (0, 0) | .error z => z
def lx1 : List UInt8 := lt1
theorem sp1 : spotP (progS lx1) = (0, 0) := by kernel_rfl
def lx2 : List UInt8 := lt1 ++ [97, 58, 10, 101, 120, 105, 116, 32, 48]
theorem sp2 : spotP (progS lx2) = (8, 320) := by kernel_rfl
def lx3 : List UInt8 := lt3 ++ [101, 120, 105, 116, 32, 50, 53, 53]
theorem sp3 : spotP (progS lx3) = (0, 0) := by kernel_rfl
def lx4 : List UInt8 := lt3 ++ [105, 110, 99, 32, 110, 10, 101, 120, 105, 116, 32, 48]
theorem sp4 : spotP (progS lx4) = (8, 771) := by kernel_rfl
def lx5 : List UInt8 := lt5 ++ [116, 105, 109, 101, 111, 117, 116, 32, 49, 48, 48, 48, 32, 103, 111, 116, 111, 32, 97, 10, 125]
theorem sp5 : spotP (progS lx5) = (0, 0) := by kernel_rfl
def lx6 : List UInt8 := lt5 ++ [34, 120, 34, 32, 103, 111, 116, 111, 32, 97, 10, 125]
theorem sp6 : spotP (progS lx6) = (8, 100) := by kernel_rfl
def lx7 : List UInt8 := [97, 58, 10, 101, 120, 105, 116, 32, 50, 53, 54]
theorem sp7 : spotP (progS lx7) = (5, 8) := by kernel_rfl
def lx8 : List UInt8 := [97, 58, 10, 115, 101, 116, 32, 110, 32, 50, 53, 54, 10, 101, 120, 105, 116, 32, 48]
theorem sp8 : spotP (progS lx8) = (5, 9) := by kernel_rfl
def lx9 : List UInt8 := [97, 58, 10, 101, 120, 112, 101, 99, 116, 32, 123, 10, 116, 105, 109, 101, 111, 117, 116, 32, 48, 32, 103, 111, 116, 111, 32, 97, 10, 125]
theorem sp9 : spotP (progS lx9) = (5, 20) := by kernel_rfl
def lx10 : List UInt8 := [97, 58, 10, 101, 120, 112, 101, 99, 116, 32, 123, 10, 116, 105, 109, 101, 111, 117, 116, 32, 49, 48, 48, 49, 32, 103, 111, 116, 111, 32, 97, 10, 125]
theorem sp10 : spotP (progS lx10) = (5, 20) := by kernel_rfl
def lx11 : List UInt8 := []
theorem sp11 : spotP (progS lx11) = (6, 0) := by kernel_rfl
def lx12 : List UInt8 := [97, 58, 10, 105, 102, 32, 110, 32, 60, 32, 50, 53, 54, 32, 103, 111, 116, 111, 32, 97, 10, 101, 120, 105, 116, 32, 48]
theorem sp12 : spotP (progS lx12) = (5, 10) := by kernel_rfl
def lx13 : List UInt8 := [97, 58, 10, 101, 120, 112, 101, 99, 116, 32, 123, 10, 116, 105, 109, 101, 111, 117, 116, 32, 53, 32, 103, 111, 116, 111, 32, 97, 10, 116, 105, 109, 101, 111, 117, 116, 32, 53, 32, 103, 111, 116, 111, 32, 97, 10, 125]
theorem sp13 : spotP (progS lx13) = (6, 29) := by kernel_rfl
def lx14 : List UInt8 := [97, 58, 10, 101, 120, 112, 101, 99, 116, 32, 123, 10, 116, 105, 109, 101, 111, 117, 116, 32, 53, 32, 103, 111, 116, 111, 32, 97, 10, 34, 120, 34, 32, 103, 111, 116, 111, 32, 97, 10, 125]
theorem sp14 : spotP (progS lx14) = (6, 29) := by kernel_rfl
theorem lt1_len : ((lt1.length : Nat) : Int) = 320 := by kernel_rfl
theorem lt3_len : ((lt3.length : Nat) : Int) = 765 := by kernel_rfl
theorem lt5_len : ((lt5.length : Nat) : Int) = 100 := by kernel_rfl
end Go.Mini
