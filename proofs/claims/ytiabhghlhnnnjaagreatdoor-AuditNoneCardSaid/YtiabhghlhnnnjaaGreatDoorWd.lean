/-
  THE WORDS OF THE PRINTED TERMS: an operation, or two, each (printed by words.py).
-/
import Derived.Test.YtiabhghlhnnnjaaGreatDoorCx
set_option linter.unusedVariables false
namespace Go.Proofs.YtiabhghlhnnnjaaGreatDoor
open Go Sh
abbrev oR (s : Sem Next) (c : Value → WP) : WP := OpK P (.one .raw) s c
abbrev qR (s : Sem Next) (c : Value → WP) : WP := PuK P (.one .raw) s c
abbrev sR (S : WP) (s : Sem Next) (c : Value → WP) : WP := StK P S (.one .raw) s c
abbrev rR (s : Sem Next) (c : Value → WP) : WP := RdK P (.one .raw) s c
abbrev lR (u : Nat) (v : Value) (c : Value → WP) : WP := OpK P (.one .raw) (vS (Instr.loadAt u v)) c
abbrev fR (t : Nat) (v : Value) (i u : Nat) (c : Value → WP) : WP := OpK P (.one .raw) (vS (Instr.fieldAt t v i)) fun p => OpK P (.one .raw) (vS (Instr.loadAt u p)) c
abbrev nR (t : Nat) (v : Value) (i u : Nat) (c : Value → WP) : WP := NilK v (OpK P (.one .raw) (vS (Instr.fieldAt t v i)) fun p => OpK P (.one .raw) (vS (Instr.loadAt u p)) c)
abbrev iR (t : Nat) (v : Value) (j : IntKind) (n : Int) (u : Nat) (c : Value → WP) : WP := OpK P (.one .raw) (vS (Instr.indexAt t v (.int j n))) fun p => OpK P (.one .raw) (vS (Instr.loadAt u p)) c
abbrev jR (S : WP) (t : Nat) (v : Value) (j : IntKind) (n : Int) (u : Nat) (c : Value → WP) : WP := PuK P (.one .raw) (vS (Instr.indexAt t v (.int j n))) fun p => StK P S (.one .raw) (vS (Instr.loadAt u p)) c
abbrev gR (S : WP) (t : Nat) (v : Value) (i u : Nat) (c : Value → WP) : WP := PuK P (.one .raw) (vS (Instr.fieldAt t v i)) fun p => StK P S (.one .raw) (vS (Instr.loadAt u p)) c
abbrev hR (S : WP) (t : Nat) (v : Value) (i u : Nat) (c : Value → WP) : WP := NilK v (PuK P (.one .raw) (vS (Instr.fieldAt t v i)) fun p => StK P S (.one .raw) (vS (Instr.loadAt u p)) c)
abbrev oI (k : IntKind) (s : Sem Next) (c : Int → WP) : WP := OpK P (.one (.int k)) s c
abbrev qI (k : IntKind) (s : Sem Next) (c : Int → WP) : WP := PuK P (.one (.int k)) s c
abbrev sI (S : WP) (k : IntKind) (s : Sem Next) (c : Int → WP) : WP := StK P S (.one (.int k)) s c
abbrev rI (k : IntKind) (s : Sem Next) (c : Int → WP) : WP := RdK P (.one (.int k)) s c
abbrev lI (u : Nat) (k : IntKind) (v : Value) (c : Int → WP) : WP := OpK P (.one (.int k)) (vS (Instr.loadAt u v)) c
abbrev fI (t : Nat) (v : Value) (i u : Nat) (k : IntKind) (c : Int → WP) : WP := OpK P (.one .raw) (vS (Instr.fieldAt t v i)) fun p => OpK P (.one (.int k)) (vS (Instr.loadAt u p)) c
abbrev nI (t : Nat) (v : Value) (i u : Nat) (k : IntKind) (c : Int → WP) : WP := NilK v (OpK P (.one .raw) (vS (Instr.fieldAt t v i)) fun p => OpK P (.one (.int k)) (vS (Instr.loadAt u p)) c)
abbrev iI (t : Nat) (v : Value) (j : IntKind) (n : Int) (u : Nat) (k : IntKind) (c : Int → WP) : WP := OpK P (.one .raw) (vS (Instr.indexAt t v (.int j n))) fun p => OpK P (.one (.int k)) (vS (Instr.loadAt u p)) c
abbrev jI (S : WP) (t : Nat) (v : Value) (j : IntKind) (n : Int) (u : Nat) (k : IntKind) (c : Int → WP) : WP := PuK P (.one .raw) (vS (Instr.indexAt t v (.int j n))) fun p => StK P S (.one (.int k)) (vS (Instr.loadAt u p)) c
abbrev gI (S : WP) (t : Nat) (v : Value) (i u : Nat) (k : IntKind) (c : Int → WP) : WP := PuK P (.one .raw) (vS (Instr.fieldAt t v i)) fun p => StK P S (.one (.int k)) (vS (Instr.loadAt u p)) c
abbrev hI (S : WP) (t : Nat) (v : Value) (i u : Nat) (k : IntKind) (c : Int → WP) : WP := NilK v (PuK P (.one .raw) (vS (Instr.fieldAt t v i)) fun p => StK P S (.one (.int k)) (vS (Instr.loadAt u p)) c)
abbrev oB (s : Sem Next) (c : Bool → WP) : WP := OpK P (.one .bool) s c
abbrev qB (s : Sem Next) (c : Bool → WP) : WP := PuK P (.one .bool) s c
abbrev sB (S : WP) (s : Sem Next) (c : Bool → WP) : WP := StK P S (.one .bool) s c
abbrev rB (s : Sem Next) (c : Bool → WP) : WP := RdK P (.one .bool) s c
abbrev lB (u : Nat) (v : Value) (c : Bool → WP) : WP := OpK P (.one .bool) (vS (Instr.loadAt u v)) c
abbrev fB (t : Nat) (v : Value) (i u : Nat) (c : Bool → WP) : WP := OpK P (.one .raw) (vS (Instr.fieldAt t v i)) fun p => OpK P (.one .bool) (vS (Instr.loadAt u p)) c
abbrev nB (t : Nat) (v : Value) (i u : Nat) (c : Bool → WP) : WP := NilK v (OpK P (.one .raw) (vS (Instr.fieldAt t v i)) fun p => OpK P (.one .bool) (vS (Instr.loadAt u p)) c)
abbrev iB (t : Nat) (v : Value) (j : IntKind) (n : Int) (u : Nat) (c : Bool → WP) : WP := OpK P (.one .raw) (vS (Instr.indexAt t v (.int j n))) fun p => OpK P (.one .bool) (vS (Instr.loadAt u p)) c
abbrev jB (S : WP) (t : Nat) (v : Value) (j : IntKind) (n : Int) (u : Nat) (c : Bool → WP) : WP := PuK P (.one .raw) (vS (Instr.indexAt t v (.int j n))) fun p => StK P S (.one .bool) (vS (Instr.loadAt u p)) c
abbrev gB (S : WP) (t : Nat) (v : Value) (i u : Nat) (c : Bool → WP) : WP := PuK P (.one .raw) (vS (Instr.fieldAt t v i)) fun p => StK P S (.one .bool) (vS (Instr.loadAt u p)) c
abbrev hB (S : WP) (t : Nat) (v : Value) (i u : Nat) (c : Bool → WP) : WP := NilK v (PuK P (.one .raw) (vS (Instr.fieldAt t v i)) fun p => StK P S (.one .bool) (vS (Instr.loadAt u p)) c)
abbrev oS (s : Sem Next) (c : ByteArray → WP) : WP := OpK P (.one .str) s c
abbrev qS (s : Sem Next) (c : ByteArray → WP) : WP := PuK P (.one .str) s c
abbrev sS (S : WP) (s : Sem Next) (c : ByteArray → WP) : WP := StK P S (.one .str) s c
abbrev rS (s : Sem Next) (c : ByteArray → WP) : WP := RdK P (.one .str) s c
abbrev lS (u : Nat) (v : Value) (c : ByteArray → WP) : WP := OpK P (.one .str) (vS (Instr.loadAt u v)) c
abbrev fS (t : Nat) (v : Value) (i u : Nat) (c : ByteArray → WP) : WP := OpK P (.one .raw) (vS (Instr.fieldAt t v i)) fun p => OpK P (.one .str) (vS (Instr.loadAt u p)) c
abbrev nS (t : Nat) (v : Value) (i u : Nat) (c : ByteArray → WP) : WP := NilK v (OpK P (.one .raw) (vS (Instr.fieldAt t v i)) fun p => OpK P (.one .str) (vS (Instr.loadAt u p)) c)
abbrev iS (t : Nat) (v : Value) (j : IntKind) (n : Int) (u : Nat) (c : ByteArray → WP) : WP := OpK P (.one .raw) (vS (Instr.indexAt t v (.int j n))) fun p => OpK P (.one .str) (vS (Instr.loadAt u p)) c
abbrev jS (S : WP) (t : Nat) (v : Value) (j : IntKind) (n : Int) (u : Nat) (c : ByteArray → WP) : WP := PuK P (.one .raw) (vS (Instr.indexAt t v (.int j n))) fun p => StK P S (.one .str) (vS (Instr.loadAt u p)) c
abbrev gS (S : WP) (t : Nat) (v : Value) (i u : Nat) (c : ByteArray → WP) : WP := PuK P (.one .raw) (vS (Instr.fieldAt t v i)) fun p => StK P S (.one .str) (vS (Instr.loadAt u p)) c
abbrev hS (S : WP) (t : Nat) (v : Value) (i u : Nat) (c : ByteArray → WP) : WP := NilK v (PuK P (.one .raw) (vS (Instr.fieldAt t v i)) fun p => StK P S (.one .str) (vS (Instr.loadAt u p)) c)
abbrev sto (u : Nat) (v x : Value) (c : WP) : WP := OpK P (.one .raw) (uS (Instr.storeAt u v x)) fun _ => c
abbrev fW (t : Nat) (v : Value) (i u : Nat) (x : Value) (c : WP) : WP := OpK P (.one .raw) (vS (Instr.fieldAt t v i)) fun p => OpK P (.one .raw) (uS (Instr.storeAt u p x)) fun _ => c
abbrev nW (t : Nat) (v : Value) (i u : Nat) (x : Value) (c : WP) : WP := NilK v (OpK P (.one .raw) (vS (Instr.fieldAt t v i)) fun p => OpK P (.one .raw) (uS (Instr.storeAt u p x)) fun _ => c)
abbrev iW (t : Nat) (v : Value) (j : IntKind) (n : Int) (u : Nat) (x : Value) (c : WP) : WP := OpK P (.one .raw) (vS (Instr.indexAt t v (.int j n))) fun p => OpK P (.one .raw) (uS (Instr.storeAt u p x)) fun _ => c
abbrev len (t y : Nat) (v : Value) (c : Int → WP) : WP := OpK P (.one (.int .i64)) (vS (Builtin.len_ #[t] y #[v])) c
abbrev app (t u y : Nat) (a b : Value) (c : Value → WP) : WP := OpK P (.one .raw) (vS (Builtin.append_ #[t, u] y #[a, b])) c
end Go.Proofs.YtiabhghlhnnnjaaGreatDoor
