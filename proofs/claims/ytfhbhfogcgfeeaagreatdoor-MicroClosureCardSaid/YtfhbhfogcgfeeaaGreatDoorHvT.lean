import Derived.Test.YtfhbhfogcgfeeaaGreatDoorHvP
import Derived.Test.YtfhbhfogcgfeeaaGreatDoorHvQ
set_option linter.unusedVariables false
set_option linter.unusedSimpArgs false
set_option maxRecDepth 100000
namespace Go.AM.G
open Go Go.AM
theorem MiO.keep {lo:Nat}{M M2:Mem}{aw uw sv qv:V}{bm bh cm ch:Nat}{em eh:Bool}{Fh Fq:Nat->Prop}{X:MiA}(h:MiO lo M aw uw sv qv bm bh cm ch em eh Fh Fq X) (k: ∀(c:Nat) (y:Blk),(c=bm\/c=bh\/Fh c\/Fq c)->M[c]? =some y->M2[c]? =some y):MiO lo M2 aw uw sv qv bm bh cm ch em eh Fh Fq X:=
 ⟨h.h.to fun c y hc hy=>k c y (.inr (.inr (.inl hc))) hy,h.q.to fun c y hc hy=>k c y (.inr (.inr (.inr hc))) hy,k _ _ (.inl rfl) h.m,k _ _ (.inr (.inl rfl)) h.d,h.l,h.f,h.fl,h.c,h.b,h.w⟩
end Go.AM.G
