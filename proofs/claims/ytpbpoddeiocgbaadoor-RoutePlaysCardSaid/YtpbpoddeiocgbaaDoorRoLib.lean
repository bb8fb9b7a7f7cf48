/- What the program's table calls of Go's library, as contracts at this translation's own numbers. -/
import Derived.Test.YtpbpoddeiocgbaaDoorRoShelf
import Derived.Test.YtpbpoddeiocgbaaDoorRoBase
set_option linter.unusedVariables false
set_option linter.unusedSimpArgs false
namespace Go.Proofs.YtpbpoddeiocgbaaDoor
open Go.RowKit Go.Maps Go.ChangeMaps Go.Sort Go.Shelf

/-- A slice of whole numbers that is read: its address where it has an element. -/
def IntsAt (w : World) (A : Option Addr) (n : Nat) (xs : List Int) : Prop :=
  xs.length = n ∧ (0 < n → ∃ b off, A = some ⟨b, off, none⟩ ∧ ∀ j, j < n → w.cell? ⟨b, off + j, none⟩ = some (.int .i64 (xs.getD j 0)))

theorem contains_any (b off n c k : Nat) (xs : List Int) (x : Int) (w : World) (hn : xs.length = n) (hk : k ≤ n) (hbig : n ≤ 9223372036854775807) (hc : ∀ j, j < n → w.cell? ⟨b, off + j, none⟩ = some (.int .i64 (xs.getD j 0))) :
    Calls Tryd.prog 37 #[.slice (some ⟨b, off, none⟩) k c, .int .i64 x] w fun e w' => e = .returned (.bool ((xs.take k).contains x)) ∧ w = w' :=
  (Any.slices_Contains_int Tryd.lays107 b off k c xs x w (by omega) (by omega) (by rw [hn]; exact hc)).mono fun _ _ ⟨h1, h2⟩ => ⟨h1, h2.symm⟩

theorem clone_any (b off n c : Nat) (xs : List Int) (w : World) (hn : xs.length = n) (hbig : n * 8 ≤ 140737488355328) (hc : ∀ j, j < n → w.cell? ⟨b, off + j, none⟩ = some (.int .i64 (xs.getD j 0))) :
    Calls Tryd.prog 21 #[.slice (some ⟨b, off, none⟩) n c] w fun e w' => ∃ v, e = .returned v ∧ w'.ownsRow w.heap.size 3 1 v n (xs.map (Value.int .i64)) ∧ Below w.heap.size w w' :=
  (Any.slices_Clone_int Tryd.lays2_15 b off n c xs w (by omega) hbig (by rw [hn]; exact hc)).mono fun _ _ ⟨v, h1, h2, _, h4⟩ => ⟨v, h1, by rw [List.take_of_length_le (by omega)] at h2; exact h2, h4⟩

def tenS : ByteArray := ⟨#[48, 49, 50, 51, 52, 53, 54, 55, 56, 57]⟩
theorem trim_any (s : ByteArray) (w : World) :
    Calls Tryd.prog 25 #[.string s, .string tenS] w fun e w' => e = .returned (.string ⟨(Lib.trimLeftS s.data.toList tenS.data.toList).toArray⟩) ∧ Below w.heap.size w w' :=
  Any.strings_TrimLeft_laid Tryd.lays161 (by kernel_rfl) s tenS w (by decide) (ascii_of_all (by decide))

theorem mclone_any (b n : Nat) (D : DataW Value) (w : World) (hown : w.ownsMap Tryd.prog 9 rawE b n D) :
    Calls Tryd.prog 24 #[.map (some b)] w fun e w' => e = .returned (.map (some w.heap.size)) ∧ w'.ownsMap Tryd.prog 9 rawE w.heap.size n D ∧ w'.ownsMap Tryd.prog 9 rawE b n D ∧ Below w.heap.size w w' :=
  AnyW.maps_Clone_owns Tryd.cloneM 9 rawE b n D w hown

end Go.Proofs.YtpbpoddeiocgbaaDoor
