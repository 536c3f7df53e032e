/- Part of the proof: contracts of functions of the given program on an abstract machine. -/
import Derived.Test.YtdfbfcohindpnaaEphemBase
import Derived.Test.YtdfbfcohindpnaaEphemSort
import Derived.Test.YtdfbfcohindpnaaAmToldA
set_option linter.unusedVariables false
set_option linter.unusedSimpArgs false
set_option maxRecDepth 100000
namespace Go.Proofs.Ytdfbfcohindpnaa.EphemBase
open Go Go.AM Go.AM.G Go.Shelf Go.RowKit Go.Lib Go.Sort
theorem lt_eq : ltOf (fun x y : Slot => Lib.compareInt x.key y.key) = ltKey := by
  funext x y
  unfold ltOf Lib.compareInt ltKey
  by_cases h1 : x.key < y.key
  · simp [h1]
  · by_cases h2 : y.key < x.key <;> simp [h1, h2]
theorem swo : SWO ltKey where
  irrefl x := by unfold ltKey; simp
  trans x y z h1 h2 := by unfold ltKey at *; simp at *; omega
  ntrans x y z h1 h2 := by unfold ltKey at *; simp at *; omega
theorem srt_sorts (d : Array Slot) : PermIn 0 d.size d (srtA d) ∧ SortedIn ltKey 0 d.size (srtA d) := pdq_sorts ltKey swo d 0 d.size (Lib.bitLen d.size) true true (Nat.zero_le _) (Nat.le_refl _) (Or.inl rfl)
theorem sort37 (blk off cap : Nat) (d : Array Slot) (w : World) (hH : HoldsK encV 3 w blk off d) (hblk : blk < w.heap.size) (hsz : d.size < 4611686018427387904) :
    Calls Try.prog 37 #[.slice (some ⟨blk, off, none⟩) d.size cap, .func (.func 38) #[] #[]] w fun e w' => e = .returned (.tuple #[]) ∧ ∃ n os, w' = sortWorldK encV 3 w blk off n (srtA d) os := by
  have eg : ∀ args w, (callFunc 38 args).run Try.prog w = .ok (.enter 38 args) w := enters_of Try.func38 (by kernel_rfl) rfl
  have hcon := AnyQ.slices_SortFunc_eq EphemSort.lays6 3 Try.isAgg54 Try.sizeOf54 encV (fun _ => rfl) (fun x v hv => by simp [encV] at hv; rcases hv with rfl | rfl | rfl <;> rfl) (fun x y => Lib.compareInt x.key y.key) (by rw [lt_eq]; exact swo) 38 #[] blk off cap d w eg (fun m os dk _ x y => EphemSort.closure38 x.st x.key x.val y.st y.key y.val _) hH hblk hsz
  rw [lt_eq] at hcon
  exact hcon
theorem toldOk : ToldOk Try.prog X := by
  intro f t h call hc args m v m' e
  unfold X at h
  split at h
  · rename_i hf
    cases h
    subst hf
    cases args with
    | nil => cases e; exact lives_ok m
    | cons a b => cases e
  split at h
  · rename_i hf
    cases h
    subst hf
    rcases tSort_some e with ⟨rfl, rfl, rfl⟩ | ⟨b, cap, ex, g, els, d, rfl, hb, rfl, h3, h4, rfl, rfl⟩
    · have h := sort_nil_run
      cases hc : callN (fun f => tab.lookup f) X0 20 n_slices_SortFunc_EphSlot [.nils, .fn n_ephem_All_2 [] []] [] with
      | none => rw [hc] at h; cases h
      | some p =>
        obtain ⟨v, m1⟩ := p
        rw [hc] at h
        have hv : v = .tup [] := by
          unfold isU at h
          split at h
          · rename_i e; cases e; rfl
          · cases h
        subst hv
        exact closed_ok' (sound0 20 _ _ _ _ _ hc) (fun φ cargs h => by simp only [Rs, R] at h ⊢; exact h) (fun _ _ _ h => by simp only [R, Rs] at h ⊢; exact h) m'
    have := sort_ok (P := Try.prog) (f := 37) (g := 38) ⟨_, Try.func37, rfl, by decide⟩ Go.AM.G.enc encV 3 (fun _ => rfl) enc_iff (fun x => by simp [Go.AM.G.enc, V.isCell]) srtA (fun d => (srt_sorts d).1.1) sort37 (cap := cap) (ex := ex) (d := d.toArray) hb (by simpa using h4) (by simpa using h3)
    simp only [List.size_toArray] at this
    exact this
  · exact toldOk0 f t h call hc args m v m' e
theorem sound (n : Nat) : SoundCall Try.prog (callN S.F S.X n) := callN_ok (Checked.mixed Try.checked) tableOk toldOk Xfr n
theorem law_calls {f : Nat} {args : List V} {m : Mem} (h : C S f args m (fun r m' => r = .bool true ∧ Grow m m')) {φ : Phi} {W : World} {cargs : List Value} (hst : St φ m W) (hr : Rs φ args cargs) (hno : RO m) :
    Calls Try.prog f cargs.toArray W fun e W' => e = .returned (.bool true) ∧ Below W.heap.size W W' := law_of sound h hst hr hno
end Go.Proofs.Ytdfbfcohindpnaa.EphemBase
