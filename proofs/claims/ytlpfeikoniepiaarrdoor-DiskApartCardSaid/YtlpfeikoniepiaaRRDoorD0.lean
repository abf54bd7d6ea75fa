/- The disks' data as pure values. -/
import Derived.Test.YtlpfeikoniepiaaRRDoorMidTabD
import Derived.Test.YtlpfeikoniepiaaRRDoorMidSim
import Derived.KernelRfl
set_option linter.all false
namespace Go.Mir
abbrev Txt := List UInt8
structure FileD where
  name : Txt
  b : Txt
  sure : Int
structure DiskD where
  files : List FileD
  cap : Int
  left : Int
  down : Bool
structure WriteD where
  op : Int
  file : Txt
  b : Txt
  n : Int
def encF (f : FileD) : List Dat := [.str f.name, .str f.b, .int .i64 f.sure]
def encK (d : DiskD) : List Dat := [.slice false (d.files.map encF), .int .i64 d.cap, .int .i64 d.left, .bool d.down]
def encWr (w : WriteD) : List Dat := [.int .i8 w.op, .str w.file, .str w.b, .int .i64 w.n]
theorem under_encF (n : Nat) (l : List FileD) : Dat.underLL n (l.map encF) = true := underLL_mk fun d hd => by
  obtain ⟨x, _, rfl⟩ := List.mem_map.1 hd
  rfl
theorem under_encWr (n : Nat) (l : List WriteD) : Dat.underLL n (l.map encWr) = true := underLL_mk fun d hd => by
  obtain ⟨x, _, rfl⟩ := List.mem_map.1 hd
  rfl
theorem rowsOk_F (l : List FileD) : rowsOk 3 (l.map encF) = true := rowsOk_map 3 encF (fun _ => rfl) l
theorem rowsOk_Wr (l : List WriteD) : rowsOk 4 (l.map encWr) = true := rowsOk_map 4 encWr (fun _ => rfl) l
/-- a text's bytes, as elements -/
def encU (c : UInt8) : List Dat := [.int .u8 c.toNat]
theorem rowsU_map (s : Txt) : rowsU s = s.map encU := rfl
theorem under_encU (n : Nat) (s : Txt) : Dat.underLL n (rowsU s) = true := underLL_mk fun d hd => by
  obtain ⟨x, _, rfl⟩ := List.mem_map.1 hd
  rfl
end Go.Mir
