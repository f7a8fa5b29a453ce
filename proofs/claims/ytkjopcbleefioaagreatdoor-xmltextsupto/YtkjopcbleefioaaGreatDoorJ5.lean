/- XmlTexts, for inputs of bulk at most 1048576: any text that XML can tell comes back from within an element just as it was, whatever it has; conditions: the listed package variables (tied by the card to the program text), nothing else. -/
import Derived.Test.YtkjopcbleefioaaGreatDoorJ4
import Derived.Test.YtkjopcbleefioaaGreatDoorK4
namespace Go.Proofs.YtkjopcbleefioaaGreatDoor
theorem textLaw : TextLaw := fun _ _ h hd => parse_write h hd
/-- ████ THE CARD ████ -/
theorem xmlTextsUpto_card : Rows.XmlTextsUptoCardSaid := xmlTexts.card textLaw
#print axioms xmlTextsUpto_card
end Go.Proofs.YtkjopcbleefioaaGreatDoor
