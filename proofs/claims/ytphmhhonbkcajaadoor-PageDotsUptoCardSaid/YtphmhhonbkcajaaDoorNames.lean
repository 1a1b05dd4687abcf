/-
  The names of a body: page.Shortcodes, mastref1.NamesOf; the names that a set lacks: page.Missing, mastref1.MissingOf.
-/
import Derived.Test.YtphmhhonbkcajaaDoorInsert
import Derived.Test.YtphmhhonbkcajaaDoorPrts
import Derived.Test.YtphmhhonbkcajaaDoorShelf
namespace Go.Proofs.YtphmhhonbkcajaaDoor
open Go.RowKit Go.Deep

/-- a set has a template -/
def hasS (l : List (ByteArray × ByteArray)) (s : ByteArray) : Bool := l.any fun x => x.1.toList == s.toList
theorem hasS_at {l : List (ByteArray × ByteArray)} {k : Nat} {x : ByteArray × ByteArray} {s : ByteArray} (h : l[k]? = some x) : hasS (l.drop k) s = (x.1.toList == s.toList || hasS (l.drop (k + 1)) s) := by
  obtain ⟨hk, rfl⟩ := List.getElem?_eq_some_iff.1 h
  rw [List.drop_eq_getElem_cons hk]
  rfl
/-- a list of names that a call makes -/
def NamesPost (L : List Str) (w : World) (e : Ending) (w' : World) : Prop :=
  ∃ A c, e = .returned (.slice A L.length c) ∧ w'.ownsRow w.heap.size 9 1 (.slice A L.length c) L.length (strCells L) ∧ Below w.heap.size w w'
theorem below_grown {B : Nat} {a b : World} {r : Option Nat} (h : a.grownBy b r) (hB : B ≤ a.heap.size) (hr : ∀ g, r = some g → B ≤ g) : Below B a b := (Below.refl B a).grown h hB hr
theorem prt_box (p : Prt) (tx : ByteArray) (av : Value) (en : Bool) (iv : Value) : Obj.cells #[.string tx, .string ⟨p.name.toArray⟩, av, .bool en, iv] 25 = .cells #[.string tx, .string ⟨p.name.toArray⟩, av, .bool en, iv] 25 := rfl
def prtBox (p : Prt) (tx : ByteArray) (av : Value) (en : Bool) (iv : Value) : Obj := .cells #[.string tx, .string ⟨p.name.toArray⟩, av, .bool en, iv] 25
theorem isEmptyQ {n : Str} {z : ByteArray} (hz : (⟨n.toArray⟩ : ByteArray) = z) : z.toList.isEmpty = n.isEmpty := by rw [← hz, mk_list]


theorem ins_len (s : Str) : ∀ (l : List Str), (insS s l).length ≤ l.length + 1
  | [] => by simp [insS]
  | a :: r => by
    have := ins_len s r
    unfold insS
    split
    · simp; omega
    · split <;> simp
/-- insert, its list's length by a name -/
theorem insert_r (B : Nat) (L : List Str) (A : Option Addr) (m c : Nat) (s : ByteArray) (r : List Str) (w : World) (hm : m = L.length) (own : w.ownsRow B 9 1 (.slice A m c) m (strCells L)) (hB : B ≤ w.heap.size) (hl : m ≤ 1073741824) (hr : insS s.data.toList L = r) :
    Calls Tryd.prog 14 #[.slice A m c, .string s] w fun e w' => ∃ A' m' c', e = .returned (.slice A' m' c') ∧ Hid (m' = r.length) ∧ w'.ownsRow B 9 1 (.slice A' m' c') m' (strCells r) ∧ w.grownBy w' (Value.slice A m c).ownBlock ∧ (∀ g, (Value.slice A' m' c').ownBlock = some g → (Value.slice A m c).ownBlock = some g ∨ w.heap.size ≤ g) := by
  subst hm
  exact (insert_q B L A c s r w own hB hl hr).mono fun e w' ⟨A', c', h1, h2, h3, h4⟩ => ⟨A', _, c', h1, Lib.hid rfl, h2, h3, h4⟩

end Go.Proofs.YtphmhhonbkcajaaDoor
