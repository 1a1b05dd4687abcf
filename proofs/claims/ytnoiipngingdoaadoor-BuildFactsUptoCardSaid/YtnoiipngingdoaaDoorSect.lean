/-
  The part of a content from a heading on: page.sign, page.Section.
-/
import Derived.Test.YtnoiipngingdoaaDoorSectPlain
import Derived.Deep.RegionWith
import Derived.RegionCalls
import Derived.Laws.Strings2
import Derived.Test.YtnoiipngingdoaaDoorFacts
import Derived.Lib.ItoaLen
import Derived.Outline
import Derived.Deep.CutRange
namespace Go.Proofs.YtnoiipngingdoaaDoor
open Go.RowKit Go.Deep

theorem itoa_len (n : Int) (h : I64 n) : (Lib.itoa n).length ≤ 21 := Lib.itoa_length_le n h.1 h.2
theorem tag_size {e : Entry} (h : I64 e.level) (hi : e.id.size ≤ 1048576) : (tagS e).size ≤ 1073741824 := by
  have h1 := itoa_len _ h
  have h2 : (⟨(Lib.itoa e.level).toArray⟩ : ByteArray).size = (Lib.itoa e.level).length := rfl
  have h3 : (⟨#[60, 104]⟩ : ByteArray).size = 2 := rfl
  have h4 : (⟨#[32, 105, 100, 61, 34]⟩ : ByteArray).size = 5 := rfl
  have h5 : (⟨#[34, 62]⟩ : ByteArray).size = 2 := rfl
  unfold tagS
  simp only [ByteArray.size_append]
  omega

def boxS (html su pl : ByteArray) (A : Option Addr) (n c : Nat) (wd : Int) (A1 : Option Addr) (n1 c1 : Nat) (A2 : Option Addr) (n2 c2 : Nat) : Array Value := #[.string html, .string su, .string pl, .slice A n c, .int .i64 wd, .slice A1 n1 c1, .slice A2 n2 c2]
def entC (e : Entry) : Array Value := #[.int .i64 e.level, .string e.id, .string e.text]
def SecPost (r : ByteArray × Bool) (w : World) (e : Ending) (w' : World) : Prop := e = .returned (.tuple #[.string r.1, .bool r.2]) ∧ Below w.heap.size w w'

end Go.Proofs.YtnoiipngingdoaaDoor
